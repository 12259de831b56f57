/-
  The symbolic layer, part 17c: calls that are lent objects: what is held against what.
-/
import Derived.Test.YtlkegffejcndbaaSxH2
set_option linter.all false
namespace Go.Sx

theorem pathEq_eq : ∀ {p q : List Stp}, pathEq p q = true → p = q
  | [], [], _ => rfl
  | .l :: p, .l :: q, h => by rw [pathEq_eq (p := p) (q := q) h]
  | .r :: p, .r :: q, h => by rw [pathEq_eq (p := p) (q := q) h]
  | .o :: p, .o :: q, h => by rw [pathEq_eq (p := p) (q := q) h]
  | .x i :: p, .x j :: q, h => by
    simp only [pathEq, Bool.and_eq_true] at h
    rw [Nat.eq_of_beq_eq_true h.1, pathEq_eq h.2]
theorem cond_opt' {α : Type} {c : Bool} {x y : α} (h : cond c (some x) none = some y) : c = true ∧ x = y := by cases c <;> simp_all
theorem eqSV_eq {a b : SV} {p : Prop} (h : eqSV a b = some p) (hp : p) : a = b := by
  unfold eqSV at h
  split at h
  · split at h
    · rename_i y hy
      cases h
      obtain ⟨rfl, e⟩ := castD_some hy
      have hp : _ = y := hp
      rw [hp, show y = _ from e]
    · cases h
  · obtain ⟨h, _⟩ := cond_opt' h
    simp only [Bool.and_eq_true] at h
    rw [Nat.eq_of_beq_eq_true h.1, pathEq_eq h.2]
  · obtain ⟨h, _⟩ := cond_opt' h
    rw [Nat.eq_of_beq_eq_true h]
  · obtain ⟨h, _⟩ := cond_opt' h
    rw [Nat.eq_of_beq_eq_true h]
  · obtain ⟨h, _⟩ := cond_opt' h
    simp only [Bool.and_eq_true] at h
    rw [Nat.eq_of_beq_eq_true h.1, Ty.beq_eq h.2]
  · cases h
theorem eqSVs_eq : ∀ {a b : List SV} {l : List Prop}, eqSVs a b = some l → allP l → a = b
  | [], [], _, _, _ => rfl
  | x :: a, y :: b, l, h, hl => by
    simp only [eqSVs] at h
    split at h
    · rename_i p q hp hq
      cases h
      rw [eqSV_eq hp hl.1, eqSVs_eq hq hl.2]
    · cases h
  | [], _ :: _, _, h, _ => by cases h
  | _ :: _, [], _, h, _ => by cases h
theorem allP_append : ∀ {l r : List Prop}, allP (l ++ r) → allP l ∧ allP r
  | [], _, h => ⟨trivial, h⟩
  | _ :: _, _, h => ⟨⟨h.1, (allP_append h.2).1⟩, (allP_append h.2).2⟩
theorem allP_mem : ∀ {l : List Prop}, allP l → ∀ p ∈ l, p
  | _ :: _, h, p, hp => by
    rcases List.mem_cons.1 hp with rfl | hp
    · exact h.1
    · exact allP_mem h.2 p hp

/-- An object of the caller's, and the callee's view of it. -/
def Twin (ren : List (Nat × Option Nat)) (f : Nat) (caps ccaps : List SV) : Ob → Ob → Prop
  | .row z e t l, ob => z = false ∧ ob = .row false e t l
  | .bx z t x, ob => z = false ∧ ob = .bx false t x
  | .mm tk tv inv, ob => ob = .mm tk tv inv
  | .bv (.s (.mp q)), ob => ∃ p, ob = .bv (.s (.mp p)) ∧ (p, some q) ∈ ren
  | .bv (.clo f' c), ob => f' = f ∧ c = caps ∧ ob = .bv (.clo f ccaps)
  | _, _ => False
theorem Twin.mono {ren ren' : List (Nat × Option Nat)} (h : ∀ x ∈ ren, x ∈ ren') {f : Nat} {caps ccaps : List SV} {ob ob' : Ob} (ht : Twin ren f caps ccaps ob ob') : Twin ren' f caps ccaps ob ob' := by
  cases ob with
  | bx _ _ _ => exact ht
  | row _ _ _ _ => exact ht
  | mm _ _ _ => exact ht
  | gh _ _ => exact ht
  | bv v =>
    cases v with
    | s v =>
      cases v with
      | mp q => obtain ⟨p, h1, h2⟩ := ht; exact ⟨p, h1, h _ h2⟩
      | _ => exact ht
    | clo _ _ => exact ht
    | _ => exact ht

/-- A value of the caller's, and the callee's view of it. -/
inductive VTw (cx : Cx) (s : ASt) (ren : List (Nat × Option Nat)) (sol : List AV) (l : List (Nat × Ob)) : AV → SV → Prop
  | d {x : AV} {v : Dv} (h : x.dv cx s = some v) (hs : x ∈ sol) : VTw cx s ren sol l x (.d v.t v.x)
  | nl {e : Nat} {t : Ty} {p : Nat} (h : (p, Ob.row false e t []) ∈ l) (hr : (p, none) ∈ ren) : VTw cx s ren sol l (.s (.nl e t)) (.os p)
  | os {o p e : Nat} {t : Ty} {y : List t.D} (hr : (p, some o) ∈ ren) (h : s.obs o = some (some (.row false e t y))) (hl : (p, Ob.row false e t y) ∈ l) : VTw cx s ren sol l (.s (.os o)) (.os p)
  | ptr {o p : Nat} {ob ob' : Ob} (hr : (p, some o) ∈ ren) (h : s.obs o = some (some ob)) (hl : (p, ob') ∈ l) (hb : isBv ob = true ∧ isBv ob' = true ∨ ∃ t y, ob = .bx false t y ∧ ob' = .bx false t y) : VTw cx s ren sol l (.s (.ptr o [])) (.ptr p [])
theorem VTw.mono {cx : Cx} {s : ASt} {ren ren' : List (Nat × Option Nat)} {sol sol' : List AV} {l l' : List (Nat × Ob)} (h1 : ∀ x ∈ ren, x ∈ ren') (h2 : ∀ x ∈ sol, x ∈ sol') (h3 : ∀ x ∈ l, x ∈ l') {x : AV} {v : SV} (h : VTw cx s ren sol l x v) : VTw cx s ren' sol' l' x v := by
  cases h with
  | d h hs => exact .d h (h2 _ hs)
  | nl h hr => exact .nl (h3 _ h) (h1 _ hr)
  | os hr h hl => exact .os (h1 _ hr) h (h3 _ hl)
  | ptr hr h hl hb => exact .ptr (h1 _ hr) h (h3 _ hl) hb

theorem unDs_mkDs : ∀ {ts : List Ty} {l : List Dv} {x : Ds ts}, mkDs ts l = some x → unDs ts x = l
  | [], [], _, _ => rfl
  | [a], [v], x, h => by
    obtain ⟨e, h⟩ := castD_some h
    obtain ⟨t, y⟩ := v
    simp only at e h
    subst e
    have h : x = y := h
    subst h; rfl
  | a :: b :: r, v :: w, x, h => by
    simp only [mkDs] at h
    split at h
    · rename_i y z h1 h2
      cases h
      obtain ⟨e, h1⟩ := castD_some h1
      obtain ⟨t, y'⟩ := v
      simp only at e h1
      subst e
      have h1 : y = y' := h1
      subst h1
      show ⟨_, y⟩ :: unDs (b :: r) z = _
      rw [unDs_mkDs h2]
    · cases h
  | [], _ :: _, _, h => by cases h
  | [_], [], _, h => by cases h
  | [_], _ :: _ :: _, _, h => by cases h
  | _ :: _ :: _, [], _, h => by cases h
theorem unDs_types : ∀ {ts : List Ty} {x : Ds ts}, (unDs ts x).map (·.t) = ts
  | [], _ => rfl
  | [_], _ => rfl
  | _ :: b :: r, x => by simp only [unDs, List.map_cons]; rw [unDs_types (ts := b :: r)]

structure MatchF (cx : Cx) (s : ASt) (f : Nat) (caps ccaps : List SV) (mi : MInv) (args : List AK) (i : Nat) (as : List AV) (m : Mt) : Prop where
  vals : All2 (VTw cx s m.ren m.sol (cObs f ccaps mi args i m.dvs)) as (cSvs args i m.dvs)
  obs : ∀ p ob', (p, ob') ∈ cObs f ccaps mi args i m.dvs → (∃ o ob, (p, some o) ∈ m.ren ∧ s.obs o = some (some ob) ∧ Twin m.ren f caps ccaps ob ob') ∨ ((p, none) ∈ m.ren ∧ ∃ e t, ob' = .row false e t [])
  keys : ∀ p ob', (p, ob') ∈ cObs f ccaps mi args i m.dvs → ∃ j, i ≤ j ∧ (p = pid j ∨ p = qid j)
  nodup : ((cObs f ccaps mi args i m.dvs).map (·.1)).Nodup
  rkeys : m.ren.map (·.1) = (cObs f ccaps mi args i m.dvs).map (·.1)
  rows : ∀ o ∈ m.rows, (∃ p, (p, some o) ∈ m.ren) ∧ ∃ e t y, s.obs o = some (some (.row false e t y))
  bxs : ∀ o ∈ m.bxs, (∃ p, (p, some o) ∈ m.ren) ∧ ∃ t y, s.obs o = some (some (.bx false t y))
  bnd : (m.ren.filterMap (·.2)).Nodup → m.bxs.Nodup
  fin : ∀ vs : List Dv, vs.map (·.t) = AK.boxes args → (∀ p ob', (p, ob') ∈ cFin f ccaps mi args i vs → ∃ o, (p, some o) ∈ m.ren) ∧
    ((cFin f ccaps mi args i vs).map (·.1)).Sublist ((cObs f ccaps mi args i m.dvs).map (·.1)) ∧ (boxWr m.bxs vs).map (·.1) = m.bxs ∧
    ∀ p o, (p, some o) ∈ m.ren → (o ∈ m.rows) ∨
      (∃ t y y', s.obs o = some (some (.bx false t y)) ∧ (o, some (.bx false t y')) ∈ boxWr m.bxs vs ∧ (p, .bx false t y') ∈ cFin f ccaps mi args i vs) ∨
      ∃ ob ob', s.obs o = some (some ob) ∧ (isBv ob = true ∨ isMm ob = true) ∧ (p, ob') ∈ cFin f ccaps mi args i vs ∧ Twin m.ren f caps ccaps ob ob'

theorem pid_ne_qid {i j : Nat} : pid i ≠ qid j := by unfold pid qid; omega
theorem matchK_sound {cx : Cx} {s : ASt} {f : Nat} {caps ccaps : List SV} {mi : MInv} : ∀ {args : List AK} {i : Nat} {as : List AV} {m : Mt}, matchK cx s f caps args i as = some m → allP m.eqs → (∀ a ∈ m.mms, a = mi) → MatchF cx s f caps ccaps mi args i as m
  | [], i, [], m, h, _, _ => by
    simp only [matchK, Option.some.injEq] at h
    subst h
    refine ⟨trivial, fun _ _ h => (by cases h), fun _ _ h => (by cases h), List.nodup_nil, rfl, fun _ h => (by cases h), fun _ h => (by cases h), fun _ => List.nodup_nil, fun vs hv => ?_⟩
    cases vs with
    | cons _ _ => simp [AK.boxes] at hv
    | nil => exact ⟨fun _ _ h => (by cases h), .slnil, rfl, fun _ _ h => by cases h⟩
  | [], _, _ :: _, _, h, _, _ => by cases h
  | _ :: _, _, [], _, h, _, _ => by cases h
  | k :: r, i, x :: xs, m, h, he, hm => by
    simp only [matchK] at h
    split at h
    · cases h
    · rename_i m' hm'
      cases k with
      | d t =>
        simp only at h
        split at h
        · rename_i v hv
          simp only [Option.some.injEq] at h
          subst h
          have F := matchK_sound (ccaps := ccaps) hm' he hm
          refine ⟨⟨.d hv List.mem_cons_self, F.vals.mono fun _ _ h => h.mono (fun _ h => h) (fun _ h => List.mem_cons_of_mem _ h) (fun _ h => h)⟩, F.obs, fun p ob hp => ?_, F.nodup, F.rkeys, F.rows, F.bxs, F.bnd, F.fin⟩
          obtain ⟨j, h1, h2⟩ := F.keys p ob hp
          exact ⟨j, by omega, h2⟩
        · cases h
      | row e t =>
        have add : ∀ (t' : Ty) (l : List t'.D) (oo : Option Nat) (rows : List Nat), (∀ o ∈ rows, oo = some o) → (∀ o, oo = some o → o ∈ rows ∧ s.obs o = some (some (.row false e t' l))) → (oo = none → l = []) →
            VTw cx s ((pid i, oo) :: m'.ren) m'.sol ((pid i, Ob.row false e t' l) :: cObs f ccaps mi r (i + 1) m'.dvs) x (.os (pid i)) → allP m'.eqs → (∀ a ∈ m'.mms, a = mi) →
            MatchF cx s f caps ccaps mi (.row e t :: r) i (x :: xs) { m' with dvs := ⟨.sl t', l⟩ :: m'.dvs, ren := (pid i, oo) :: m'.ren, rows := rows ++ m'.rows } := by
          intro t' l oo rows hr1 hr2 hr3 hvt he hm
          have F := matchK_sound (ccaps := ccaps) hm' he hm
          have hnew : pid i ∉ (cObs f ccaps mi r (i + 1) m'.dvs).map (·.1) := by
            intro hmem
            obtain ⟨⟨p, ob⟩, hp, e1⟩ := List.mem_map.1 hmem
            have e1 : p = pid i := e1
            obtain ⟨j, h1, h2⟩ := F.keys p ob hp
            rcases h2 with h2 | h2
            · rw [e1] at h2; unfold pid at h2; omega
            · rw [e1] at h2; exact pid_ne_qid h2
          refine ⟨⟨hvt, F.vals.mono fun _ _ h => h.mono (fun _ h => List.mem_cons_of_mem _ h) (fun _ h => h) (fun _ h => List.mem_cons_of_mem _ h)⟩, ?_, ?_, List.nodup_cons.2 ⟨hnew, F.nodup⟩, ?_, ?_, ?_, ?_, ?_⟩
          · intro p ob' hp
            rcases List.mem_cons.1 hp with hp | hp
            · cases hp
              cases oo with
              | none => exact .inr ⟨List.mem_cons_self, e, t', by rw [hr3 rfl]⟩
              | some o => exact .inl ⟨o, _, List.mem_cons_self, (hr2 o rfl).2, rfl, rfl⟩
            · rcases F.obs p ob' hp with ⟨o, ob, h1, h2, h3⟩ | ⟨h1, h2⟩
              · exact .inl ⟨o, ob, List.mem_cons_of_mem _ h1, h2, h3.mono fun _ h => List.mem_cons_of_mem _ h⟩
              · exact .inr ⟨List.mem_cons_of_mem _ h1, h2⟩
          · intro p ob' hp
            rcases List.mem_cons.1 hp with hp | hp
            · cases hp; exact ⟨i, Nat.le_refl _, .inl rfl⟩
            · obtain ⟨j, h1, h2⟩ := F.keys p ob' hp
              exact ⟨j, by omega, h2⟩
          · show pid i :: m'.ren.map (·.1) = pid i :: _
            rw [F.rkeys]
          · intro o ho
            rcases List.mem_append.1 ho with ho | ho
            · have := hr1 o ho
              exact ⟨⟨pid i, by rw [this]; exact List.mem_cons_self⟩, _, _, _, (hr2 o this).2⟩
            · obtain ⟨⟨p, h1⟩, h2⟩ := F.rows o ho
              exact ⟨⟨p, List.mem_cons_of_mem _ h1⟩, h2⟩
          · intro o ho
            obtain ⟨⟨p, h1⟩, h2⟩ := F.bxs o ho
            exact ⟨⟨p, List.mem_cons_of_mem _ h1⟩, h2⟩
          · intro hn
            apply F.bnd
            cases oo with
            | none => exact hn
            | some o => exact (List.nodup_cons.1 hn).2
          · intro vs hvs
            obtain ⟨g1, g2, g3, g4⟩ := F.fin vs hvs
            refine ⟨fun p ob' hp => ?_, List.Sublist.cons _ g2, g3, ?_⟩
            · obtain ⟨o, ho⟩ := g1 p ob' hp
              exact ⟨o, List.mem_cons_of_mem _ ho⟩
            · intro p o hp
              rcases List.mem_cons.1 hp with hp | hp
              · simp only [Prod.mk.injEq] at hp
                exact .inl (List.mem_append.2 (.inl (hr2 o hp.2.symm).1))
              · rcases g4 p o hp with h1 | h1 | ⟨ob, ob', h1, h2, h3, h4⟩
                · exact .inl (List.mem_append.2 (.inr h1))
                · exact .inr (.inl h1)
                · exact .inr (.inr ⟨ob, ob', h1, h2, h3, h4.mono fun _ h => List.mem_cons_of_mem _ h⟩)
        simp only at h
        split at h
        · rename_i e' t'
          obtain ⟨hc, h⟩ := cond_opt' h
          subst h
          simp only [Bool.and_eq_true] at hc
          have e1 := Nat.eq_of_beq_eq_true hc.1
          subst e1
          exact add t' [] none [] (fun _ h => by cases h) (fun _ h => by cases h) (fun _ => rfl) (.nl List.mem_cons_self List.mem_cons_self) he hm
        · rename_i o
          split at h
          · rename_i e' t' l ho
            obtain ⟨hc, h⟩ := cond_opt' h
            subst h
            simp only [Bool.and_eq_true] at hc
            have e1 := Nat.eq_of_beq_eq_true hc.1
            subst e1
            exact add t' l (some o) [o] (fun o' h => by rw [List.mem_singleton.1 h]) (fun o' h => by cases h; exact ⟨List.mem_cons_self, ho⟩) (fun h => by cases h) (.os List.mem_cons_self ho List.mem_cons_self) he hm
          · cases h
        · cases h
      | box t =>
        simp only at h
        split at h
        · rename_i o
          split at h
          · rename_i t' y ho
            obtain ⟨hc, h⟩ := cond_opt' h
            subst h
            have e1 := Ty.beq_eq hc
            subst e1
            have F := matchK_sound (ccaps := ccaps) hm' he hm
            have hnew : pid i ∉ (cObs f ccaps mi r (i + 1) m'.dvs).map (·.1) := by
              intro hmem
              obtain ⟨⟨p, ob⟩, hp, e1⟩ := List.mem_map.1 hmem
              have e1 : p = pid i := e1
              obtain ⟨j, h1, h2⟩ := F.keys p ob hp
              rcases h2 with h2 | h2
              · rw [e1] at h2; unfold pid at h2; omega
              · rw [e1] at h2; exact pid_ne_qid h2
            refine ⟨⟨.ptr List.mem_cons_self ho List.mem_cons_self (.inr ⟨_, _, rfl, rfl⟩), F.vals.mono fun _ _ h => h.mono (fun _ h => List.mem_cons_of_mem _ h) (fun _ h => h) (fun _ h => List.mem_cons_of_mem _ h)⟩, ?_, ?_, List.nodup_cons.2 ⟨hnew, F.nodup⟩, ?_, ?_, ?_, ?_, ?_⟩
            · intro p ob' hp
              rcases List.mem_cons.1 hp with hp | hp
              · cases hp
                exact .inl ⟨o, _, List.mem_cons_self, ho, rfl, rfl⟩
              · rcases F.obs p ob' hp with ⟨o, ob, h1, h2, h3⟩ | ⟨h1, h2⟩
                · exact .inl ⟨o, ob, List.mem_cons_of_mem _ h1, h2, h3.mono fun _ h => List.mem_cons_of_mem _ h⟩
                · exact .inr ⟨List.mem_cons_of_mem _ h1, h2⟩
            · intro p ob' hp
              rcases List.mem_cons.1 hp with hp | hp
              · cases hp; exact ⟨i, Nat.le_refl _, .inl rfl⟩
              · obtain ⟨j, h1, h2⟩ := F.keys p ob' hp
                exact ⟨j, by omega, h2⟩
            · show pid i :: m'.ren.map (·.1) = pid i :: _
              rw [F.rkeys]
            · intro o ho
              obtain ⟨⟨p, h1⟩, h2⟩ := F.rows o ho
              exact ⟨⟨p, List.mem_cons_of_mem _ h1⟩, h2⟩
            · intro o' ho'
              rcases List.mem_cons.1 ho' with rfl | ho'
              · exact ⟨⟨pid i, List.mem_cons_self⟩, _, _, ho⟩
              · obtain ⟨⟨p, h1⟩, h2⟩ := F.bxs o' ho'
                exact ⟨⟨p, List.mem_cons_of_mem _ h1⟩, h2⟩
            · intro hn
              have hn := List.nodup_cons.1 (show (o :: m'.ren.filterMap (·.2)).Nodup from hn)
              refine List.nodup_cons.2 ⟨fun hmem => hn.1 ?_, F.bnd hn.2⟩
              obtain ⟨⟨p, h1⟩, _⟩ := F.bxs o hmem
              exact List.mem_filterMap.2 ⟨_, h1, rfl⟩
            · intro vs hvs
              cases vs with
              | nil => simp [AK.boxes] at hvs
              | cons v vs =>
                obtain ⟨tv, xv⟩ := v
                simp only [List.map_cons, AK.boxes, List.cons.injEq] at hvs
                obtain ⟨e2, hvs⟩ := hvs
                subst e2
                obtain ⟨g1, g2, g3, g4⟩ := F.fin vs hvs
                refine ⟨fun p ob' hp => ?_, ?_, ?_, ?_⟩
                · rcases List.mem_cons.1 hp with hp | hp
                  · cases hp; exact ⟨o, List.mem_cons_self⟩
                  · obtain ⟨o, ho⟩ := g1 p ob' hp
                    exact ⟨o, List.mem_cons_of_mem _ ho⟩
                · exact List.Sublist.cons_cons _ g2
                · show o :: (boxWr m'.bxs vs).map (·.1) = _
                  rw [g3]
                · intro p o' hp
                  rcases List.mem_cons.1 hp with hp | hp
                  · cases hp
                    exact .inr (.inl ⟨tv, y, xv, ho, List.mem_cons_self, List.mem_cons_self⟩)
                  · rcases g4 p o' hp with h1 | ⟨t1, y1, y2, h1, h2, h3⟩ | ⟨ob, ob', h1, h2, h3, h4⟩
                    · exact .inl h1
                    · exact .inr (.inl ⟨t1, y1, y2, h1, List.mem_cons_of_mem _ h2, List.mem_cons_of_mem _ h3⟩)
                    · exact .inr (.inr ⟨ob, ob', h1, h2, List.mem_cons_of_mem _ h3, h4.mono fun _ h => List.mem_cons_of_mem _ h⟩)
          · cases h
        · cases h
      | mem =>
        simp only at h
        split at h
        · rename_i o
          split at h
          · rename_i q ho
            split at h
            · rename_i tk tv inv hq
              simp only [Option.some.injEq] at h
              subst h
              have hmi : MInv.mk tk tv inv = mi := hm _ List.mem_cons_self
              subst hmi
              have F := matchK_sound (ccaps := ccaps) hm' he (fun a ha => hm a (List.mem_cons_of_mem _ ha))
              have hnew : ∀ p, (p = pid i ∨ p = qid i) → p ∉ (cObs f ccaps ⟨tk, tv, inv⟩ r (i + 1) m'.dvs).map (·.1) := by
                intro p hpi hmem
                obtain ⟨⟨p', ob⟩, hp, e1⟩ := List.mem_map.1 hmem
                have e1 : p' = p := e1
                obtain ⟨j, h1, h2⟩ := F.keys p' ob hp
                rw [e1] at h2
                unfold pid qid at *; omega
              refine ⟨⟨.ptr List.mem_cons_self ho List.mem_cons_self (.inl ⟨rfl, rfl⟩), F.vals.mono fun _ _ h => h.mono (fun _ h => List.mem_cons_of_mem _ (List.mem_cons_of_mem _ h)) (fun _ h => h) (fun _ h => List.mem_cons_of_mem _ (List.mem_cons_of_mem _ h))⟩, ?_, ?_,
                List.nodup_cons.2 ⟨?_, List.nodup_cons.2 ⟨hnew _ (.inr rfl), F.nodup⟩⟩, ?_, ?_, ?_, ?_, ?_⟩
              · intro p ob' hp
                rcases List.mem_cons.1 hp with hp | hp
                · cases hp
                  exact .inl ⟨o, _, List.mem_cons_self, ho, qid i, rfl, List.mem_cons_of_mem _ List.mem_cons_self⟩
                · rcases List.mem_cons.1 hp with hp | hp
                  · cases hp
                    exact .inl ⟨q, _, List.mem_cons_of_mem _ List.mem_cons_self, hq, rfl⟩
                  · rcases F.obs p ob' hp with ⟨o, ob, h1, h2, h3⟩ | ⟨h1, h2⟩
                    · exact .inl ⟨o, ob, List.mem_cons_of_mem _ (List.mem_cons_of_mem _ h1), h2, h3.mono fun _ h => List.mem_cons_of_mem _ (List.mem_cons_of_mem _ h)⟩
                    · exact .inr ⟨List.mem_cons_of_mem _ (List.mem_cons_of_mem _ h1), h2⟩
              · intro p ob' hp
                rcases List.mem_cons.1 hp with hp | hp
                · cases hp; exact ⟨i, Nat.le_refl _, .inl rfl⟩
                · rcases List.mem_cons.1 hp with hp | hp
                  · cases hp; exact ⟨i, Nat.le_refl _, .inr rfl⟩
                  · obtain ⟨j, h1, h2⟩ := F.keys p ob' hp
                    exact ⟨j, by omega, h2⟩
              · show pid i ∉ qid i :: _
                simp only [List.mem_cons, not_or]
                exact ⟨pid_ne_qid, hnew _ (.inl rfl)⟩
              · show pid i :: qid i :: m'.ren.map (·.1) = pid i :: qid i :: _
                rw [F.rkeys]
              · intro o ho
                obtain ⟨⟨p, h1⟩, h2⟩ := F.rows o ho
                exact ⟨⟨p, List.mem_cons_of_mem _ (List.mem_cons_of_mem _ h1)⟩, h2⟩
              · intro o' ho'
                obtain ⟨⟨p, h1⟩, h2⟩ := F.bxs o' ho'
                exact ⟨⟨p, List.mem_cons_of_mem _ (List.mem_cons_of_mem _ h1)⟩, h2⟩
              · intro hn
                exact F.bnd (List.nodup_cons.1 (List.nodup_cons.1 (show (o :: q :: m'.ren.filterMap (·.2)).Nodup from hn)).2).2
              · intro vs hvs
                obtain ⟨g1, g2, g3, g4⟩ := F.fin vs hvs
                refine ⟨fun p ob' hp => ?_, List.Sublist.cons_cons _ (List.Sublist.cons_cons _ g2), g3, ?_⟩
                · rcases List.mem_cons.1 hp with hp | hp
                  · cases hp; exact ⟨o, List.mem_cons_self⟩
                  · rcases List.mem_cons.1 hp with hp | hp
                    · cases hp; exact ⟨q, List.mem_cons_of_mem _ List.mem_cons_self⟩
                    · obtain ⟨o, ho⟩ := g1 p ob' hp
                      exact ⟨o, List.mem_cons_of_mem _ (List.mem_cons_of_mem _ ho)⟩
                · intro p o' hp
                  rcases List.mem_cons.1 hp with hp | hp
                  · cases hp
                    exact .inr (.inr ⟨_, _, ho, .inl rfl, List.mem_cons_self, qid i, rfl, List.mem_cons_of_mem _ List.mem_cons_self⟩)
                  · rcases List.mem_cons.1 hp with hp | hp
                    · cases hp
                      exact .inr (.inr ⟨_, _, hq, .inr rfl, List.mem_cons_of_mem _ List.mem_cons_self, rfl⟩)
                    · rcases g4 p o' hp with h1 | ⟨t1, y1, y2, h1, h2, h3⟩ | ⟨ob, ob', h1, h2, h3, h4⟩
                      · exact .inl h1
                      · exact .inr (.inl ⟨t1, y1, y2, h1, h2, List.mem_cons_of_mem _ (List.mem_cons_of_mem _ h3)⟩)
                      · exact .inr (.inr ⟨ob, ob', h1, h2, List.mem_cons_of_mem _ (List.mem_cons_of_mem _ h3), h4.mono fun _ h => List.mem_cons_of_mem _ (List.mem_cons_of_mem _ h)⟩)
            · cases h
          · cases h
        · cases h
      | self =>
        simp only at h
        split at h
        · rename_i o
          split at h
          · rename_i f' caps' ho
            split at h
            · rename_i l hf hl
              simp only [Option.some.injEq] at h
              subst h
              obtain ⟨he1, he2⟩ := allP_append he
              have e1 := Nat.eq_of_beq_eq_true hf
              subst e1
              have e2 := eqSVs_eq hl he1
              subst e2
              have F := matchK_sound (ccaps := ccaps) hm' he2 hm
              have hnew : pid i ∉ (cObs f' ccaps mi r (i + 1) m'.dvs).map (·.1) := by
                intro hmem
                obtain ⟨⟨p, ob⟩, hp, e1⟩ := List.mem_map.1 hmem
                have e1 : p = pid i := e1
                obtain ⟨j, h1, h2⟩ := F.keys p ob hp
                rcases h2 with h2 | h2
                · rw [e1] at h2; unfold pid at h2; omega
                · rw [e1] at h2; exact pid_ne_qid h2
              refine ⟨⟨.ptr List.mem_cons_self ho List.mem_cons_self (.inl ⟨rfl, rfl⟩), F.vals.mono fun _ _ h => h.mono (fun _ h => List.mem_cons_of_mem _ h) (fun _ h => h) (fun _ h => List.mem_cons_of_mem _ h)⟩, ?_, ?_, List.nodup_cons.2 ⟨hnew, F.nodup⟩, ?_, ?_, ?_, ?_, ?_⟩
              · intro p ob' hp
                rcases List.mem_cons.1 hp with hp | hp
                · cases hp
                  exact .inl ⟨o, _, List.mem_cons_self, ho, rfl, rfl, rfl⟩
                · rcases F.obs p ob' hp with ⟨o, ob, h1, h2, h3⟩ | ⟨h1, h2⟩
                  · exact .inl ⟨o, ob, List.mem_cons_of_mem _ h1, h2, h3.mono fun _ h => List.mem_cons_of_mem _ h⟩
                  · exact .inr ⟨List.mem_cons_of_mem _ h1, h2⟩
              · intro p ob' hp
                rcases List.mem_cons.1 hp with hp | hp
                · cases hp; exact ⟨i, Nat.le_refl _, .inl rfl⟩
                · obtain ⟨j, h1, h2⟩ := F.keys p ob' hp
                  exact ⟨j, by omega, h2⟩
              · show pid i :: m'.ren.map (·.1) = pid i :: _
                rw [F.rkeys]
              · intro o ho
                obtain ⟨⟨p, h1⟩, h2⟩ := F.rows o ho
                exact ⟨⟨p, List.mem_cons_of_mem _ h1⟩, h2⟩
              · intro o' ho'
                obtain ⟨⟨p, h1⟩, h2⟩ := F.bxs o' ho'
                exact ⟨⟨p, List.mem_cons_of_mem _ h1⟩, h2⟩
              · intro hn
                exact F.bnd (List.nodup_cons.1 (show (o :: m'.ren.filterMap (·.2)).Nodup from hn)).2
              · intro vs hvs
                obtain ⟨g1, g2, g3, g4⟩ := F.fin vs hvs
                refine ⟨fun p ob' hp => ?_, List.Sublist.cons_cons _ g2, g3, ?_⟩
                · rcases List.mem_cons.1 hp with hp | hp
                  · cases hp; exact ⟨o, List.mem_cons_self⟩
                  · obtain ⟨o, ho⟩ := g1 p ob' hp
                    exact ⟨o, List.mem_cons_of_mem _ ho⟩
                · intro p o' hp
                  rcases List.mem_cons.1 hp with hp | hp
                  · cases hp
                    exact .inr (.inr ⟨_, _, ho, .inl rfl, List.mem_cons_self, rfl, rfl, rfl⟩)
                  · rcases g4 p o' hp with h1 | ⟨t1, y1, y2, h1, h2, h3⟩ | ⟨ob, ob', h1, h2, h3, h4⟩
                    · exact .inl h1
                    · exact .inr (.inl ⟨t1, y1, y2, h1, h2, List.mem_cons_of_mem _ h3⟩)
                    · exact .inr (.inr ⟨ob, ob', h1, h2, List.mem_cons_of_mem _ h3, h4.mono fun _ h => List.mem_cons_of_mem _ h⟩)
            · cases h
          · cases h
        · cases h
end Go.Sx
