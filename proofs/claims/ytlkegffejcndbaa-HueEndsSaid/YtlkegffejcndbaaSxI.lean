/-
  The symbolic layer, part 18: calls; every operation.
-/
import Derived.Test.YtlkegffejcndbaaSxH4
set_option linter.all false
namespace Go.Sx
section
variable {K : Ctx} {s : ASt} {a : Act} {w w' : World} {β : Nat → Loc} {cx : Cx} {g : List (Nat × Bool)} {o : Oper} {e : Eff} {d : Nat}
variable {r : Option Nat} {n : Nat} {next : Act → World → Prop} {Q : Exit → Act → World → Prop}

theorem wpIn_of_run (hop : ∀ c, o.op ≠ .defer c) (h : o.uponIn (FF r) n K.P a next Q ((execOp a.eval o).run K.P w)) : o.wpIn (FF r) n K.P a w next Q := by
  refine ⟨fun _ _ => trivial, ?_⟩
  rw [Oper.semAt_eq _ _ _ hop]
  exact h

theorem upon_did (hop : ∀ c, o.op ≠ .defer c) (h : Did K s a w o e)
    (hn : ∀ v w' β', RelB K (after s e.wr) a w' β' → AVRep K.P (after s e.wr) β' w' (Mset K.Mg (after s e.wr) β') e.av v → next (a.put o.dst v) w') : o.wpIn (FF r) n K.P a w next Q := by
  obtain ⟨v, w', β', h1, h2, h3⟩ := h
  refine wpIn_of_run hop ?_
  rw [h1]
  exact hn v w' β' h2 h3
theorem upon_dids (hop : ∀ c, o.op ≠ .defer c) (he : e.av = .un) (h : DidS K s a w o e)
    (hn : ∀ v w' β', RelB K (after s e.wr) a w' β' → AVRep K.P (after s e.wr) β' w' (Mset K.Mg (after s e.wr) β') e.av v → next (a.put o.dst v) w') : o.wpIn (FF r) n K.P a w next Q := by
  obtain ⟨w', β', h1, h2⟩ := h
  refine wpIn_of_run hop ?_
  rw [h1]
  exact hn undef w' β' h2 (by rw [he]; trivial)

/-- A call that is carried out. -/
theorem upon_enter (hop : ∀ c, o.op ≠ .defer c) {f : FuncId} {args : Array Value} (hrun : (execOp a.eval o).run K.P w = .ok (.enter f args) w) {R : Ending → World → Prop} (hc : Calls K.P f args w R)
    (hR : ∀ e w', R e w' → ∃ v, e = .returned v ∧ next (a.put o.dst v) w') : o.wpIn (FF r) n K.P a w next Q := by
  refine wpIn_of_run hop ?_
  rw [hrun]
  refine ⟨fun h => (by cases h), (callsIn_FF hc).mono ?_⟩
  intro e w' he
  obtain ⟨v, rfl, hv⟩ := hR e w' he
  exact hv

theorem resAV {P : Program} {w : World} {M : Nat → Prop} {s : ASt} {β : Nat → Loc} : ∀ {ts : List Ty} {v : Value} {x : Ds ts}, RRep P w M ts v x →
    AVRep P s β w M (match unDs ts x with | [v] => .s (.d v.t v.x) | l => .tup (l.map fun v => .d v.t v.x)) v
  | [], v, x, h => ⟨[], by rw [show v = _ from h], trivial⟩
  | [a], v, x, h => h
  | a :: b :: r, v, x, h => by
    obtain ⟨vs, rfl, h⟩ := h
    have key : ∀ {ts : List Ty} {vs : List Value} {x : Ds ts}, ARep P w M ts vs x → All2 (SVRep P s β w M) ((unDs ts x).map fun v => .d v.t v.x) vs := by
      intro ts
      induction ts with
      | nil => intro vs x h; rw [show vs = _ from h]; trivial
      | cons a ts ih =>
        intro vs x h
        cases ts with
        | nil => obtain ⟨v, rfl, h⟩ := h; exact ⟨h, trivial⟩
        | cons b ts =>
          obtain ⟨v, vs, rfl, h1, h2⟩ := h
          exact ⟨h1, ih h2⟩
    have hne : ∃ p q l, unDs (a :: b :: r) x = p :: q :: l := by
      cases r with
      | nil => exact ⟨_, _, _, rfl⟩
      | cons c r => exact ⟨_, _, _, rfl⟩
    obtain ⟨p, q, l, hl⟩ := hne
    have := key h
    rw [hl] at this ⊢
    exact ⟨vs, rfl, this⟩

theorem RRep.flat {P : Program} {w : World} {M M' : Nat → Prop} : ∀ {ts : List Ty} {v : Value} {x : Ds ts}, ts.all Ty.flat = true → RRep P w M ts v x → RRep P w M' ts v x
  | [], v, x, _, h => h
  | [a], v, x, hf, h => VRep.flat (by simpa using hf) h
  | a :: b :: r, v, x, hf, ⟨vs, h1, h2⟩ => by
    refine ⟨vs, h1, ?_⟩
    have key : ∀ {ts : List Ty} {vs : List Value} {x : Ds ts}, ts.all Ty.flat = true → ARep P w M ts vs x → ARep P w M' ts vs x := by
      intro ts
      induction ts with
      | nil => intro vs x _ h; exact h
      | cons a ts ih =>
        intro vs x hf h
        simp only [List.all_cons, Bool.and_eq_true] at hf
        cases ts with
        | nil => obtain ⟨v, rfl, h⟩ := h; exact ⟨v, rfl, VRep.flat hf.1 h⟩
        | cons b ts =>
          obtain ⟨v, vs, rfl, h1, h2⟩ := h
          exact ⟨v, vs, rfl, VRep.flat hf.1 h1, ih hf.2 h2⟩
    exact key hf h2

theorem upon_call (hcx : CxOk K.P cx) (h : RelB K s a w β) (hop : ∀ c, o.op ≠ .defer c) {f : Nat} {args : List AV} {us : List Value} (hus : All2 (AVRep K.P s β w (Mset K.Mg s β)) args us) (he : callEff cx s f args = some e) (hob : ∀ r, e.obl = some r → r)
    (hrun : (execOp a.eval o).run K.P w = (callFunc f us.toArray).run K.P w)
    (hn : ∀ v w' β', RelB K (after s e.wr) a w' β' → AVRep K.P (after s e.wr) β' w' (Mset K.Mg (after s e.wr) β') e.av v → next (a.put o.dst v) w') : o.wpIn (FF r) n K.P a w next Q := by
  unfold callEff at he
  split at he
  · cases he
  · rename_i k hk
    simp only at he
    split at he
    · cases he
    · rename_i vs hvs
      split at he
      · cases he
      · rename_i x hx
        simp only [Option.some.injEq] at he
        subst he
        obtain ⟨hent, hh⟩ := hcx.con f k hk
        have hpre : k.pre x := hob _ rfl
        cases hfl : k.res.all Ty.flat with
        | true =>
          have harg := avs_rep hcx h hus (optAll_all2 hvs) (under_mg h fun q hq => by
            obtain ⟨av, _, hq⟩ := List.mem_flatMap.1 hq
            exact open_live hq)
          have hA := mkDs_rep harg hx
          refine upon_enter hop (hrun.trans (hent _ _)) (hh w K.Mg us x h.mg hA hpre) ?_
          rintro e w' ⟨v, rfl, hext, hR⟩
          obtain ⟨g1, g2⟩ := h.grow hext
          refine ⟨v, rfl, hn v w' β ?_ ?_⟩
          · rw [hfl]; exact g1
          · rw [hfl]; exact resAV (hR.flat hfl)
        | false =>
          have hs : solid cx s args = some (vs, args.flatMap AV.ids, freeze s (args.flatMap (AV.open? s))) := by
            unfold solid; rw [hvs]
          obtain ⟨h1, h2, h3, h4⟩ := solid_rep hcx h hs hus
          have hA := mkDs_rep h4 hx
          refine upon_enter hop (hrun.trans (hent _ _)) (hh w _ us x (fun b hb => h1.mset_lt hb) hA hpre) ?_
          rintro e w' ⟨v, rfl, hext, hR⟩
          obtain ⟨g1, g2⟩ := h1.grow hext
          refine ⟨v, rfl, hn v w' β ?_ ?_⟩
          · rw [hfl]; exact g1
          · rw [hfl]; exact resAV hR

theorem after_append (s : ASt) (A B : List (Nat × Option Ob)) : after s (A ++ B) = after (after s B) A := by
  induction A with
  | nil => rfl
  | cons x A ih =>
    obtain ⟨k, v⟩ := x
    rw [List.cons_append, after_cons, ih, after_cons]
theorem after_env (s : ASt) (A : List (Nat × Option Ob)) : (after s A).env = s.env := rfl
theorem after_out (s : ASt) (A : List (Nat × Option Ob)) {x : Nat} (h : x ∉ A.map (·.1)) : (after s A).obs x = s.obs x := by
  induction A with
  | nil => rfl
  | cons y A ih =>
    obtain ⟨k, v⟩ := y
    simp only [List.map_cons, List.mem_cons, not_or] at h
    rw [after_cons]
    show put (after s A).obs k (some v) x = _
    rw [put_other _ _ h.1, ih h.2]
theorem after_in (s : ASt) (A : List (Nat × Option Ob)) (hn : (A.map (·.1)).Nodup) {x : Nat} {v : Option Ob} (h : (x, v) ∈ A) : (after s A).obs x = some v := by
  induction A with
  | nil => cases h
  | cons y A ih =>
    obtain ⟨k, u⟩ := y
    have hn := List.nodup_cons.1 (show (k :: A.map (·.1)).Nodup from hn)
    rw [after_cons]
    show put (after s A).obs k (some u) x = _
    rcases List.mem_cons.1 h with h | h
    · cases h; exact put_same _ _ _
    · rw [put_other _ _ (fun e => hn.1 (List.mem_map.2 ⟨_, h, e⟩))]
      exact ih hn.2 h
theorem after_none (s : ASt) (A : List Nat) {x : Nat} (h : x ∈ A) : (after s (A.map fun o => (o, none))).obs x = some none := by
  induction A with
  | nil => cases h
  | cons y A ih =>
    rw [List.map_cons, after_cons]
    show put _ y _ x = _
    by_cases e : x = y
    · subst e; exact put_same _ _ _
    · rw [put_other _ _ e]
      exact ih ((List.mem_cons.1 h).resolve_left e)

theorem capTws {s₀ s₁ : ASt} {β₀ β₁ : Nat → Loc} {ren : List (Nat × Option Nat)} {sol : List AV} {l : List (Nat × Ob)}
    (hptr : ∀ p o, (p, some o) ∈ ren → (∃ ob, s.obs o = some (some ob) ∧ (isBv ob = true ∨ isBx ob = true)) → β₁ p = β₀ o ∧ (∃ ob, s₀.obs o = some (some ob) ∧ (isBv ob = true ∨ isBx ob = true)) ∧ ∃ ob, s₁.obs p = some (some ob) ∧ (isBv ob = true ∨ isBx ob = true)) :
    ∀ {c cc : List SV}, All2 (VTw cx s ren sol l) (c.map .s) cc → capsOk c cc = true → All2 (CapTw s₀ s₁ β₀ β₁) c cc
  | [], [], _, _ => trivial
  | a :: c, b :: cc, h, hc => by
    obtain ⟨h1, h2⟩ := h
    cases a with
    | d t x =>
      cases b with
      | d t' x' =>
        refine ⟨?_, capTws hptr h2 hc⟩
        cases h1 with
        | d h _ => cases h; exact .d
      | _ => cases hc
    | ptr o p =>
      cases p with
      | cons _ _ => cases b <;> cases hc
      | nil =>
        cases b with
        | ptr q p' =>
          cases p' with
          | cons _ _ => cases hc
          | nil =>
            refine ⟨?_, capTws hptr h2 hc⟩
            cases h1 with
            | ptr hr h hl hb =>
              obtain ⟨k1, k2, k3⟩ := hptr _ _ hr ⟨_, h, by rcases hb with hb | ⟨t, y, e, _⟩; exact .inl hb.1; exact .inr (by rw [e]; rfl)⟩
              exact .ptr k1 k2 k3
        | _ => cases hc
    | _ => cases b <;> cases hc
  | [], _ :: _, h, _ => h.elim
  | _ :: _, [], h, _ => h.elim

theorem all2u_drop_map {α β γ : Type} {R : α → β → Prop} {l : List α} {r : List β} (h : All2 R l r) (n : Nat) : All2 R (l.drop n) (r.drop n) := h.drop n

/-- What the effect of such a call is. -/
theorem callLEff_form {f : Nat} {k : LCon} {args : List AV} {caps : List SV} (he : callLEff cx s d f k args caps = some e) :
    ∃ m x, matchK cx s f caps k.args 0 (args ++ caps.map .s) = some m ∧ mkDs (AK.ins k.args) m.dvs = some x ∧ k.ncap = caps.length ∧ k.ncap ≤ k.args.length ∧ capsOk caps (k.caps x) = true ∧
      (m.ren.filterMap (·.2)).Nodup ∧ disjN (m.ren.filterMap (·.2)) (m.sol.flatMap (AV.open? s)) = true ∧
      (∀ r, (∀ r', e.obl = some r' → r') → (k.pre x ∧ (allP m.eqs ∧ allP (m.mms.map fun a => Z.same a (k.minv x))) → r) → r) ∧
      ((k.row = none ∧ e.av = avOf ((unDs _ (k.val x)).take k.res.length) ∧
          e.wr = m.rows.map (fun o => (o, none)) ++ (boxWr m.bxs ((unDs _ (k.val x)).drop k.res.length) ++ freeze s (m.sol.flatMap (AV.open? s)))) ∨
       ∃ e₀ t l r, k.row = some e₀ ∧ unDs _ (k.val x) = ⟨.sl t, l⟩ :: r ∧ s.obs d = none ∧ k.res.length = 1 ∧ e.av = .s (.os d) ∧
          e.wr = (d, some (.row false e₀ t l)) :: (m.rows.map (fun o => (o, none)) ++ (boxWr m.bxs ((unDs _ (k.val x)).drop k.res.length) ++ freeze s (m.sol.flatMap (AV.open? s))))) := by
  unfold callLEff at he
  split at he
  · cases he
  · rename_i m hm
    split at he
    · cases he
    · rename_i x hx
      simp only at he
      obtain ⟨hc, he⟩ := cond_none he
      simp only [Bool.and_eq_true] at hc
      obtain ⟨⟨c1, c2, c3⟩, c4, c5⟩ := hc
      refine ⟨m, x, hm, hx, Nat.eq_of_beq_eq_true c1, Nat.le_of_ble_eq_true c2, c3, nodup_of c4, c5, ?_⟩
      split at he
      · rename_i hrow
        cases he
        exact ⟨fun r h1 h2 => h2 (h1 _ rfl), .inl ⟨hrow, rfl, rfl⟩⟩
      · rename_i e₀ t t' l r hrow hres hout
        split at he
        · rename_i hobs
          obtain ⟨_, he⟩ := cond_opt' he
          subst he
          exact ⟨fun r h1 h2 => h2 (h1 _ rfl), .inr ⟨e₀, t', l, r, hrow, hout, hobs, by rw [hres]; rfl, rfl, rfl⟩⟩
        · cases he
      · cases he

theorem svs_avs' {P : Program} {β : Nat → Loc} {w : World} {M : Nat → Prop} : ∀ {l : List SV} {us : List Value}, All2 (SVRep P s β w M) l us → All2 (AVRep P s β w M) (l.map .s) us
  | [], [], _ => trivial
  | _ :: _, _ :: _, h => ⟨h.1, svs_avs' h.2⟩
  | [], _ :: _, h => h.elim
  | _ :: _, [], h => h.elim
theorem data_rep {P : Program} {sA sB : ASt} {βA βB : Nat → Loc} {w : World} {MA MB : Nat → Prop} (hsub : ∀ b, b < w.heap.size → MB b → MA b) {l : List Dv} {v : Value}
    (h : AVRep P sA βA w MA (avOf l) v) : AVRep P sB βB w MB (avOf l) v := by
  have key : ∀ {l : List Dv} {vs : List Value}, All2 (SVRep P sA βA w MA) (l.map fun v => .d v.t v.x) vs → All2 (SVRep P sB βB w MB) (l.map fun v => .d v.t v.x) vs := by
    intro l
    induction l with
    | nil => intro vs h; cases vs with
      | nil => trivial
      | cons _ _ => exact h.elim
    | cons a l ih => intro vs h; cases vs with
      | nil => exact h.elim
      | cons v vs => exact ⟨VRep.sub h.1 hsub, ih h.2⟩
  match l, h with
  | [], h => obtain ⟨vs, h1, h2⟩ := h; exact ⟨vs, h1, key (l := []) h2⟩
  | [_], h => exact VRep.sub h hsub
  | _ :: _ :: _, h => obtain ⟨vs, h1, h2⟩ := h; exact ⟨vs, h1, key (l := _ :: _ :: _) h2⟩

theorem upon_callL (hcx : CxOk K.P cx) (h : RelB K s a w β) (hop : ∀ c, o.op ≠ .defer c) {f : Nat} {k : LCon} (hk : cx.lcon f = some k) {args : List AV} {caps : List SV} {us vs : List Value}
    (hus : All2 (AVRep K.P s β w (Mset K.Mg s β)) args us) (hcs : All2 (SVRep K.P s β w (Mset K.Mg s β)) caps vs) (he : callLEff cx s d f k args caps = some e) (hob : ∀ r, e.obl = some r → r)
    (hrun : (execOp a.eval o).run K.P w = (callFunc f (us ++ vs).toArray).run K.P w)
    (hn : ∀ v w' β', RelB K (after s e.wr) a w' β' → AVRep K.P (after s e.wr) β' w' (Mset K.Mg (after s e.wr) β') e.av v → next (a.put o.dst v) w') : o.wpIn (FF r) n K.P a w next Q := by
  obtain ⟨m, x, hm, hx, hnc, hncl, hcap, hnd, hdj, hobl, hform⟩ := callLEff_form he
  obtain ⟨hpre, heqs, hmms⟩ := hobl _ hob id
  have F := matchK_sound (ccaps := k.caps x) (mi := k.minv x) hm heqs (fun b hb => allP_mem hmms _ (List.mem_map.2 ⟨b, hb, rfl⟩))
  have hux := unDs_mkDs hx
  have hlen := matchK_len hm
  obtain ⟨ids, hids⟩ : ∃ ids, ids = m.sol.flatMap (AV.open? s) := ⟨_, rfl⟩
  rw [← hids] at hdj hform
  obtain ⟨h1, h2, h3, h4⟩ := h.freeze ids
  obtain ⟨s1, hs1⟩ : ∃ s1, s1 = after s (freeze s ids) := ⟨_, rfl⟩
  change RelB K (after s (freeze s ids)) a w β at h1
  change Tr _ w (Mset K.Mg (after s (freeze s ids)) β) w at h2
  change Compat s β (after s (freeze s ids)) β at h3
  change ∀ o ∈ ids, ∀ b, _ → _ → _ → ¬ Mset K.Mg (after s (freeze s ids)) β b at h4
  have hs1o : ∀ o, s1.obs o = frO s ids o := fun o => by rw [hs1]; exact freeze_obs s ids o
  rw [← hs1] at h1 h2 h3 h4
  have hM0 : ∀ b, Mset K.Mg s1 β b → Mset K.Mg s β b := fun b hb => h2.2 b (h1.mset_lt hb) hb
  have hlent : ∀ p o, (p, some o) ∈ m.ren → s1.obs o = s.obs o := by
    intro p o hp
    rw [hs1o, frO_out]
    intro ho
    exact disjN_not hdj (List.mem_filterMap.2 ⟨_, hp, rfl⟩) ho
  have hkn : (m.ren.map (·.1)).Nodup := by rw [F.rkeys]; exact F.nodup
  -- the callee's view
  have el : k.obs f x = cObs f (k.caps x) (k.minv x) k.args 0 m.dvs := by unfold LCon.obs; rw [hux]
  obtain ⟨l₀, hl₀⟩ : ∃ l₀, l₀ = cObs f (k.caps x) (k.minv x) k.args 0 m.dvs := ⟨_, rfl⟩
  obtain ⟨s₀, hs₀⟩ : ∃ s₀, s₀ = bare (obsOf l₀) := ⟨_, rfl⟩
  have es₀ : bare (obsOf (k.obs f x)) = s₀ := by rw [el, ← hl₀, hs₀]
  have F1 := F.vals; have F2 := F.obs; have F3 := F.nodup; have F4 := F.rkeys
  rw [← hl₀] at F1 F2 F3 F4
  have o1 : ∀ p ob, s₀.obs p = some (some ob) → (p, ob) ∈ l₀ := fun p ob hp => by rw [hs₀] at hp; exact obsOf_mem hp
  have o2 : ∀ p ob, (p, ob) ∈ l₀ → s₀.obs p = some (some ob) := fun p ob hp => by rw [hs₀]; exact obsOf_of F3 hp
  obtain ⟨β₀, hβ₀⟩ : ∃ β₀, β₀ = bOf β m.ren := ⟨_, rfl⟩
  have hβs : ∀ p o, (p, some o) ∈ m.ren → β₀ p = β o := fun p o hp => by rw [hβ₀]; exact bOf_of hkn hp
  have hβn : ∀ p, (p, none) ∈ m.ren → β₀ p = ⟨none, .slice none 0 0⟩ := fun p hp => by rw [hβ₀]; exact bOf_of hkn hp
  -- each lent object, on both sides
  have hcal : ∀ p o, (p, some o) ∈ m.ren → ∃ ob ob', s.obs o = some (some ob) ∧ s1.obs o = some (some ob) ∧ s₀.obs p = some (some ob') ∧ Twin m.ren f caps (k.caps x) ob ob' := by
    intro p o hp
    have : p ∈ l₀.map (·.1) := by rw [← F4]; exact List.mem_map.2 ⟨_, hp, rfl⟩
    obtain ⟨⟨p', ob'⟩, hp', e1⟩ := List.mem_map.1 this
    have e1 : p' = p := e1
    subst e1
    rcases F2 p' ob' hp' with ⟨o', ob, g1, g2, g3⟩ | ⟨g1, _⟩
    · have := ren_unique hkn hp g1
      cases this
      exact ⟨ob, ob', g2, (hlent _ _ hp).trans g2, o2 _ _ hp', g3⟩
    · have := ren_unique hkn hp g1
      cases this
  obtain ⟨Mg', hMg'⟩ : ∃ Mg' : Nat → Prop, Mg' = fun b => Mset K.Mg s1 β b ∧ ¬ ∃ p o, (p, some o) ∈ m.ren ∧ (β o).blk = some b := ⟨_, rfl⟩
  have hsplit : ∀ p ob', s₀.obs p = some (some ob') → (∃ o ob, (p, some o) ∈ m.ren ∧ β₀ p = β o ∧ s1.obs o = some (some ob) ∧ Twin m.ren f caps (k.caps x) ob ob') ∨ (β₀ p = ⟨none, .slice none 0 0⟩ ∧ ∃ e t, ob' = .row false e t []) := by
    intro p ob' hp
    rcases F2 p ob' (o1 p ob' hp) with ⟨o, ob, g1, g2, g3⟩ | ⟨g1, g2⟩
    · exact .inl ⟨o, ob, g1, hβs p o g1, (hlent p o g1).trans g2, g3⟩
    · exact .inr ⟨hβn p g1, g2⟩
  have hOwn0 : ∀ b, Own s₀ β₀ b → ∃ p o ob, (p, some o) ∈ m.ren ∧ (β o).blk = some b ∧ s1.obs o = some (some ob) ∧ obFz ob = false := by
    rintro b ⟨p, ob', hp, hf, hb⟩
    rcases hsplit p ob' hp with ⟨o, ob, g1, g2, g3, g4⟩ | ⟨g1, _⟩
    · exact ⟨p, o, ob, g1, g2 ▸ hb, g3, g4.open.1⟩
    · rw [g1] at hb; cases hb
  have hOwn : ∀ b, Own s₀ β₀ b → Own s1 β b := fun b hb => by
    obtain ⟨p, o, ob, _, g2, g3, g4⟩ := hOwn0 b hb
    exact ⟨o, ob, g3, g4, g2⟩
  have hM1 : ∀ b, Mset Mg' s₀ β₀ b → Mset K.Mg s1 β b := by
    rintro b (hb | hb)
    · rw [hMg'] at hb; exact hb.1
    · exact .inr (hOwn b hb)
  have hsub1 : ∀ b, b < w.heap.size → Mset Mg' s₀ β₀ b → Mset K.Mg s1 β b := fun b _ hb => hM1 b hb
  -- what a closure has captured
  have hdrop : (args ++ caps.map AV.s).drop (k.args.length - k.ncap) = caps.map AV.s := by
    have : args.length = k.args.length - k.ncap := by
      rw [List.length_append, List.length_map] at hlen; omega
    rw [← this, List.drop_left]
  have hccaps : (cSvs k.args 0 m.dvs).drop (k.args.length - k.ncap) = k.caps x := by unfold LCon.caps LCon.svs; rw [hux]
  have hcv : All2 (VTw cx s m.ren m.sol l₀) (caps.map AV.s) (k.caps x) := by
    have := F1.drop (k.args.length - k.ncap)
    rwa [hdrop, hccaps] at this
  have hbb : ∀ {ob ob' : Ob}, Twin m.ren f caps (k.caps x) ob ob' → (isBv ob = true ∨ isBx ob = true) → isBv ob' = true ∨ isBx ob' = true := by
    intro ob ob' ht hb
    cases ob with
    | bx _ _ _ => rw [ht.2]; exact .inr rfl
    | bv v =>
      cases v with
      | s v => cases v with
        | mp q => obtain ⟨p, rfl, _⟩ := ht; exact .inl rfl
        | _ => exact ht.elim
      | clo _ _ => rw [ht.2.2]; exact .inl rfl
      | _ => exact ht.elim
    | row _ _ _ _ => rcases hb with hb | hb <;> cases hb
    | mm _ _ _ => rcases hb with hb | hb <;> cases hb
    | gh _ _ => rcases hb with hb | hb <;> cases hb
  have hcap0 : All2 (CapTw s1 s₀ β β₀) caps (k.caps x) := by
    refine capTws (fun p o hp hb => ?_) hcv hcap
    obtain ⟨ob, ob', g1, g2, g3, g4⟩ := hcal p o hp
    obtain ⟨ob2, hb1, hb2⟩ := hb
    rw [g1] at hb1; cases hb1
    exact ⟨hβs p o hp, ⟨ob, g2, hb2⟩, ob', g3, hbb g4 hb2⟩
  have hlt : ∀ b, Mg' b → b < w.heap.size := fun b hb => by rw [hMg'] at hb; exact h1.mset_lt hb.1
  have hL0 : Lent K.P s₀ β₀ w Mg' := by
    refine ⟨?_, ?_, ?_⟩
    · intro p ob' hp
      rcases hsplit p ob' hp with ⟨o, ob, g1, g2, g3, g4⟩ | ⟨g1, e, t, rfl⟩
      · rw [g2]
        refine twin_fwd hsub1 (fun p q hpq => ⟨hβs p q hpq, fun ob2 hq2 hmm => ?_⟩) (fun p q hpq => ?_) hcap0 g4 (h1.ob o ob g3)
        · obtain ⟨ob3, ob4, k1, k2, k3, k4⟩ := hcal p q hpq
          rw [k2] at hq2; cases hq2
          refine ⟨ob4, k3, ?_⟩
          cases ob2 <;> first | cases hmm | skip
          rw [show ob4 = _ from k4]; rfl
        · obtain ⟨ob3, ob4, k1, k2, k3, k4⟩ := hcal p q hpq
          exact ⟨ob3, k2⟩
      · rw [g1]
        exact ⟨by simp, rfl, [], trivial, by simp, .inl ⟨rfl, rfl⟩⟩
    · intro p p' ob ob' b hp hp' hb hb'
      rcases hsplit p ob hp with ⟨o, ob1, g1, g2, g3, g4⟩ | ⟨g1, _⟩
      · rcases hsplit p' ob' hp' with ⟨o', ob1', g1', g2', g3', g4'⟩ | ⟨g1', _⟩
        · have := h1.inj o o' _ _ b g3 g3' (g2 ▸ hb) (g2' ▸ hb')
          subst this
          exact ren_inj hnd g1 g1'
        · rw [g1'] at hb'; cases hb'
      · rw [g1] at hb; cases hb
    · intro p ob b hp hb hM
      rw [hMg'] at hM
      rcases hsplit p ob hp with ⟨o, ob1, g1, g2, g3, g4⟩ | ⟨g1, _⟩
      · exact hM.2 ⟨p, o, g1, g2 ▸ hb⟩
      · rw [g1] at hb; cases hb
  have hvals : All2 (SVRep K.P s₀ β₀ w (Mset Mg' s₀ β₀)) (k.svs x) (us ++ vs) := by
    have e1 : k.svs x = cSvs k.args 0 m.dvs := by unfold LCon.svs; rw [hux]
    rw [e1]
    refine All2.comp (R := fun cs x => VTw cx s m.ren m.sol l₀ x cs) (S := AVRep K.P s β w (Mset K.Mg s β)) ?_ F1.flip (hus.append (svs_avs' hcs))
    intro cs y u hv hu
    cases hv with
    | d hd hsol =>
      refine VRep.sub (AV.dv_rep hcx h hu hd ⟨hM0, fun q hq b hb hM => ?_⟩) hsub1
      obtain ⟨ob, g1, g2⟩ := open_canFz hq
      exact h4 q (by rw [hids]; exact List.mem_flatMap.2 ⟨_, hsol, hq⟩) b (fun ob' ho' => by rw [g1] at ho'; cases ho'; exact g2) ⟨ob, g1⟩ hb hM
    | nl hp hr =>
      have hu : u = .slice none 0 0 := hu
      simp only [SVRep, o2 _ _ hp, hβn _ hr]
      exact ⟨rfl, hu⟩
    | os hr hso hp =>
      simp only [AVRep, SVRep, hso] at hu
      simp only [SVRep, o2 _ _ hp, hβs _ _ hr]
      exact ⟨rfl, hu.2⟩
    | ptr hr hso hp hb =>
      refine CapTw.fwd (sA := s) (sB := s₀) (βA := β) (βB := β₀) (MA := Mset K.Mg s β) (fun b hb hM => hM0 b (hM1 b hM)) (.ptr (hβs _ _ hr) ⟨_, hso, ?_⟩ ⟨_, o2 _ _ hp, ?_⟩) hu
      · rcases hb with hb | ⟨t, y, e1, _⟩
        · exact .inl hb.1
        · exact .inr (by rw [e1]; rfl)
      · rcases hb with hb | ⟨t, y, _, e1⟩
        · exact .inl hb.2
        · exact .inr (by rw [e1]; rfl)
  obtain ⟨hent, hh⟩ := hcx.lcon f k hk
  have hcall := hh w Mg' β₀ (us ++ vs) x hlt (by rw [es₀]; exact hL0) (by rw [es₀]; exact hvals) hpre
  rw [es₀] at hcall
  refine upon_enter hop (hrun.trans (hent _ _)) hcall ?_
  rintro e' w' ⟨v, β', rfl, hext, hL, hsame, hrid, hav⟩
  refine ⟨v, rfl, ?_⟩
  obtain ⟨out, hout⟩ : ∃ out, out = unDs (k.res ++ AK.boxes k.args) (k.val x) := ⟨_, rfl⟩
  rw [← hout] at hform hL hsame hav
  have hbt : (out.drop k.res.length).map (·.t) = AK.boxes k.args := by
    rw [List.map_drop, hout, unDs_types, List.drop_left]
  obtain ⟨g1, g2, g3, g4⟩ := F.fin (out.drop k.res.length) hbt
  obtain ⟨fl, hfl⟩ : ∃ fl, fl = cFin f (k.caps x) (k.minv x) k.args 0 (out.drop k.res.length) := ⟨_, rfl⟩
  rw [← hfl] at g1 g2 g4
  rw [← hl₀] at g2
  have hfn : (fl.map (·.1)).Nodup := g2.nodup F3
  have hpr : ∀ p ob, (p, ob) ∈ fl → p ≠ rid := fun p ob hp => by
    have : p ∈ l₀.map (·.1) := g2.subset (List.mem_map.2 ⟨_, hp, rfl⟩)
    obtain ⟨⟨p', ob'⟩, hp', e1⟩ := List.mem_map.1 this
    have e1 : p' = p := e1
    subst e1
    obtain ⟨j, _, hj⟩ := F.keys p' ob' (by rw [← hl₀]; exact hp')
    exact pid_rid hj
  obtain ⟨sf, hsf⟩ : ∃ sf, sf = bare (k.fin f x out) := ⟨_, rfl⟩
  rw [← hsf] at hL hav
  have hsfo : ∀ o, sf.obs o = k.fin f x out o := fun o => by rw [hsf]; rfl
  have hfin : ∀ p ob, (p, ob) ∈ fl → sf.obs p = some (some ob) := by
    intro p ob hp
    rw [hsfo]
    have hbase : obsOf fl p = some (some ob) := obsOf_of hfn hp
    unfold LCon.fin
    rw [← hfl]
    rw [rowPut_other (hpr p ob hp)]; exact hbase
  have hfβ : ∀ p o ob, (p, ob) ∈ fl → (p, some o) ∈ m.ren → β' p = β o := by
    intro p o ob hp hr
    rw [hsame p ob (hpr p ob hp) (by rw [← hsfo]; exact hfin p ob hp), hβs p o hr]
  -- the caller's objects behind the call
  have fin : ∀ (s2 : ASt) (β2 : Nat → Loc) (D : Nat → Prop), s2.env = s1.env → (∀ o ∈ m.rows, ¬ D o → s2.obs o = some none) → (∀ o v, (o, v) ∈ boxWr m.bxs (out.drop k.res.length) → ¬ D o → s2.obs o = some v) → (∀ o, o ∉ m.rows → o ∉ m.bxs → ¬ D o → s2.obs o = s1.obs o) →
      (∀ o, D o → s1.obs o = none ∧ o = d ∧ β2 o = β' rid ∧ ∃ ob, s2.obs o = some (some ob) ∧ sf.obs rid = some (some ob) ∧ isRow ob = true ∧ obFz ob = false) → (∀ o, ¬ D o → β2 o = β o) → (∀ o, D o → k.row.isSome = true) →
      RelB K s2 a w' β2 ∧ ∀ b, b < w'.heap.size → Mset K.Mg s2 β2 b → Mset Mg' sf β' b := by
    intro s2 β2 D henv hA hB hC hD hβ2 hDr
    have notD : ∀ p o, (p, some o) ∈ m.ren → ¬ D o := fun p o hp hd => by
      obtain ⟨ob, _, _, k2, _⟩ := hcal p o hp
      rw [(hD o hd).1] at k2; cases k2
    have lent_cls : ∀ p o, (p, some o) ∈ m.ren → ∀ ob, s2.obs o = some (some ob) → ∃ ob', (p, ob') ∈ fl ∧ Twin m.ren f caps (k.caps x) ob ob' := by
      intro p o hp ob ho
      rcases g4 p o hp with hr | ⟨t, y, y', k1, k2, k3⟩ | ⟨ob1, ob2, k1, k2, k3, k4⟩
      · rw [hA o hr (notD p o hp)] at ho; cases ho
      · rw [hB o _ k2 (notD p o hp)] at ho; cases ho
        exact ⟨_, k3, rfl, rfl⟩
      · have hnr : o ∉ m.rows := fun hr => by
          obtain ⟨_, e, t, y, hr⟩ := F.rows o hr
          rw [k1] at hr; cases hr
          rcases k2 with k2 | k2 <;> cases k2
        have hnb : o ∉ m.bxs := fun hr => by
          obtain ⟨_, t, y, hr⟩ := F.bxs o hr
          rw [k1] at hr; cases hr
          rcases k2 with k2 | k2 <;> cases k2
        rw [hC o hnr hnb (notD p o hp), hlent p o hp, k1] at ho
        cases ho
        exact ⟨ob2, k3, k4⟩
    have cls : ∀ o ob, s2.obs o = some (some ob) → D o ∨ (∃ p ob' obc, (p, some o) ∈ m.ren ∧ (p, ob') ∈ fl ∧ Twin m.ren f caps (k.caps x) ob ob' ∧ ¬ D o ∧ s1.obs o = some (some obc) ∧ obFz obc = false) ∨ ((∀ p, (p, some o) ∉ m.ren) ∧ ¬ D o ∧ s1.obs o = some (some ob)) := by
      intro o ob ho
      by_cases hd : D o
      · exact .inl hd
      by_cases hp : ∃ p, (p, some o) ∈ m.ren
      · obtain ⟨p, hp⟩ := hp
        obtain ⟨ob', k1, k2⟩ := lent_cls p o hp ob ho
        obtain ⟨obc, _, _, k3, _, k4⟩ := hcal p o hp
        exact .inr (.inl ⟨p, ob', obc, hp, k1, k2, hd, k3, k4.open.1⟩)
      · have hp : ∀ p, (p, some o) ∉ m.ren := fun p hp' => hp ⟨p, hp'⟩
        refine .inr (.inr ⟨hp, hd, ?_⟩)
        rw [← hC o (fun hr => by obtain ⟨⟨p, h⟩, _⟩ := F.rows o hr; exact hp p h) (fun hr => by obtain ⟨⟨p, h⟩, _⟩ := F.bxs o hr; exact hp p h) hd]
        exact ho
    have hsub2 : ∀ b, b < w'.heap.size → Mset K.Mg s2 β2 b → Mset Mg' sf β' b := by
      rintro b _ (hb | ⟨o, ob, ho, hf, hb⟩)
      · refine .inl ?_
        rw [hMg']
        refine ⟨.inl hb, ?_⟩
        rintro ⟨p, o, hp, hbo⟩
        obtain ⟨obc, _, _, k3, _⟩ := hcal p o hp
        exact h1.dis o obc b k3 hbo hb
      · rcases cls o ob ho with hd | ⟨p, ob', obc, k1, k2, k3, k4, k5, k6⟩ | ⟨k1, k2, k3⟩
        · obtain ⟨_, _, e1, ob2, e2, e3, e4, e5⟩ := hD o hd
          exact .inr ⟨rid, ob2, e3, e5, by rw [← e1]; exact hb⟩
        · refine .inr ⟨p, ob', hfin p ob' k2, k3.open.2, ?_⟩
          rw [hfβ p o ob' k2 k1, ← hβ2 o k4]; exact hb
        · refine .inl ?_
          rw [hβ2 o k2] at hb
          rw [hMg']
          refine ⟨.inr ⟨o, ob, k3, hf, hb⟩, ?_⟩
          rintro ⟨p, o', hp, hbo⟩
          obtain ⟨obc, _, _, k4, _⟩ := hcal p o' hp
          have := h1.inj o o' _ _ b k3 k4 hb hbo
          subst this
          exact k1 p hp
    have hcap2 : All2 (CapTw s2 sf β2 β') caps (k.caps x) := by
      refine capTws (fun p o hp hb => ?_) hcv hcap
      obtain ⟨ob, hb1, hb2⟩ := hb
      rcases g4 p o hp with hr | ⟨t, y, y', k1, k2, k3⟩ | ⟨ob1, ob2, k1, k2, k3, k4⟩
      · obtain ⟨_, e, t, y, hr⟩ := F.rows o hr
        rw [hb1] at hr; cases hr
        rcases hb2 with hb2 | hb2 <;> cases hb2
      · exact ⟨(hfβ p o _ k3 hp).trans (hβ2 o (notD p o hp)).symm, ⟨_, hB o _ k2 (notD p o hp), .inr rfl⟩, _, hfin _ _ k3, .inr rfl⟩
      · rw [k1] at hb1; cases hb1
        have hnr : o ∉ m.rows := fun hr => by
          obtain ⟨_, e, t, y, hr⟩ := F.rows o hr
          rw [k1] at hr; cases hr
          rcases k2 with k2 | k2 <;> cases k2
        have hnb : o ∉ m.bxs := fun hr => by
          obtain ⟨_, t, y, hr⟩ := F.bxs o hr
          rw [k1] at hr; cases hr
          rcases k2 with k2 | k2 <;> cases k2
        exact ⟨(hfβ p o _ k3 hp).trans (hβ2 o (notD p o hp)).symm, ⟨_, by rw [hC o hnr hnb (notD p o hp), hlent p o hp, k1], hb2⟩, ob2, hfin _ _ k3, hbb k4 hb2⟩
    have hD1 : ∀ o r, s1.obs o = some r → ¬ D o := fun o r ho hd => by rw [(hD o hd).1] at ho; cases ho
    have hcc : Compat s1 β s2 β2 := by
      refine ⟨fun o ho => ?_, fun o ob ho => ?_⟩
      · by_cases hr : o ∈ m.rows
        · exact hA o hr (hD1 o _ ho)
        · have hnb : o ∉ m.bxs := fun hb => by
            obtain ⟨⟨p, hp⟩, t, y, hb⟩ := F.bxs o hb
            rw [hlent p o hp, hb] at ho; cases ho
          rw [hC o hr hnb (hD1 o _ ho)]; exact ho
      · by_cases hr : o ∈ m.rows
        · exact .inl (hA o hr (hD1 o _ ho))
        · by_cases hb : o ∈ m.bxs
          · obtain ⟨⟨p, hp⟩, t, y, hb⟩ := F.bxs o hb
            rcases g4 p o hp with hr' | ⟨t', y1, y', k1, k2, k3⟩ | ⟨ob1, ob2, k1, k2, k3, k4⟩
            · exact absurd hr' hr
            · right
              rw [hlent p o hp, k1] at ho; cases ho
              exact ⟨_, hB o _ k2 (hD1 o (some (.bx false t' y1)) (by rw [hlent p o hp, k1])), hβ2 o (notD p o hp), fun _ h => h, fun _ => rfl, rfl, rfl⟩
            · rw [hb] at k1; cases k1; rcases k2 with k2 | k2 <;> cases k2
          · right
            exact ⟨ob, by rw [hC o hr hb (hD1 o _ ho)]; exact ho, hβ2 o (hD1 o _ ho), .refl _⟩
    refine ⟨(h1.step hcc (hext.mono fun b _ hb => hOwn b hb) ?_ ?_ ?_ ?_ henv ?_).1, hsub2⟩
    · rintro b hb ⟨o, ob, ho, hf, hbo⟩
      rcases cls o ob ho with hd | ⟨p, ob', obc, k1, k2, k3, k4, k5, k6⟩ | ⟨k1, k2, k3⟩
      · obtain ⟨_, _, e1, _⟩ := hD o hd
        rcases hrid b (e1 ▸ hbo) (hDr o hd) with q | q
        · exact hOwn b q
        · omega
      · exact ⟨o, obc, k5, k6, hβ2 o k4 ▸ hbo⟩
      · exact ⟨o, ob, k3, hf, hβ2 o k2 ▸ hbo⟩
    · intro o ob ho
      rcases cls o ob ho with hd | ⟨p, ob', obc, k1, k2, k3, k4, k5, k6⟩ | ⟨k1, k2, k3⟩
      · right
        intro _
        obtain ⟨_, _, e1, ob2, e2, e3, e4, e5⟩ := hD o hd
        rw [ho] at e2; cases e2
        rw [e1]
        have hr := hL.ob rid ob e3
        cases ob <;> first | cases e4 | skip
        obtain ⟨q1, q2, vss, q3, q4⟩ := hr
        exact ⟨q1, q2, vss, q3.mono fun _ _ h => h.tr ⟨.refl _ _, hsub2⟩, q4⟩
      · right
        intro _
        rw [hβ2 o k4, ← hfβ p o ob' k2 k1]
        refine twin_bwd hsub2 hcap2 k3 (fun p' q hq hpq => ?_) (hL.ob p ob' (hfin p ob' k2))
        subst hq
        -- the map behind the box
        have hs1o' : s1.obs o = some (some (.bv (.s (.mp q)))) := by
          rcases g4 p o k1 with hr | ⟨t, y, y', e1, e2, e3⟩ | ⟨ob1, ob2, e1, e2, e3, e4⟩
          · rw [hA o hr k4] at ho; cases ho
          · rw [hB o _ e2 k4] at ho; cases ho
          · have hnr : o ∉ m.rows := fun hr => by rw [hA o hr k4] at ho; cases ho
            have hnb : o ∉ m.bxs := fun hr => by
              obtain ⟨_, t, y, hr⟩ := F.bxs o hr
              rw [e1] at hr; cases hr
              rcases e2 with e2 | e2 <;> cases e2
            rw [← hC o hnr hnb k4]; exact ho
        obtain ⟨b, u, e, _, _, hmp⟩ := h1.ob o _ hs1o'
        obtain ⟨obq, _, k7, k8, _⟩ := hcal p' q hpq
        simp only [AVRep, SVRep, k8] at hmp
        have hmm := hmp.1
        rcases g4 p' q hpq with hr | ⟨t, y, y', e1, e2, e3⟩ | ⟨ob1, ob2, e1, e2, e3, e4⟩
        · obtain ⟨_, e, t, y, hr⟩ := F.rows q hr
          rw [k7] at hr; cases hr; cases hmm
        · rw [k7] at e1; cases e1; cases hmm
        · rw [k7] at e1; cases e1
          have hnr : q ∉ m.rows := fun hr => by
            obtain ⟨_, e, t, y, hr⟩ := F.rows q hr
            rw [k7] at hr; cases hr; cases hmm
          have hnb : q ∉ m.bxs := fun hr => by
            obtain ⟨_, t, y, hr⟩ := F.bxs q hr
            rw [k7] at hr; cases hr; cases hmm
          exact ⟨(hfβ p' q _ e3 hpq).trans (hβ2 q (notD p' q hpq)).symm, ob2, obq, hfin _ _ e3, by rw [hC q hnr hnb (notD p' q hpq)]; exact k8, hmm⟩
      · left
        refine ⟨k3, hβ2 o k2, fun b hb => hext.2 b (h1.blk_lt k3 hb) fun ho' => ?_⟩
        obtain ⟨p, o', obc, q1, q2, q3, _⟩ := hOwn0 b ho'
        have := h1.inj o o' _ _ b k3 q3 hb q2
        subst this
        exact k1 p q1
    · intro x1 x2 ob1 ob2 b hx1 hx2 hb1 hb2
      have live : ∀ o ob, s2.obs o = some (some ob) → ¬ D o → ∃ obc, s1.obs o = some (some obc) := by
        intro o ob ho hd
        rcases cls o ob ho with hd' | ⟨p, ob', obc, k1, k2, k3, k4, k5, k6⟩ | ⟨k1, k2, k3⟩
        · exact absurd hd' hd
        · exact ⟨obc, k5⟩
        · exact ⟨ob, k3⟩
      have mixed : ∀ o o' ob ob', s2.obs o = some (some ob) → s2.obs o' = some (some ob') → (β2 o).blk = some b → (β2 o').blk = some b → D o → ¬ D o' → False := by
        intro o o' ob ob' ho ho' hb hb' hd hd'
        obtain ⟨_, _, e1, ob3, e2, e3, _⟩ := hD o hd
        rcases cls o' ob' ho' with hd'' | ⟨p, ob4, obc, k1, k2, k3, k4, k5, k6⟩ | ⟨k1, k2, k3⟩
        · exact hd' hd''
        · refine hpr p ob4 k2 (hL.inj p rid _ _ b (hfin p ob4 k2) e3 ?_ (e1 ▸ hb))
          rw [hfβ p o' ob4 k2 k1, ← hβ2 o' k4]; exact hb'
        · rw [hβ2 o' k2] at hb'
          rcases hrid b (e1 ▸ hb) (hDr o hd) with q | q
          · obtain ⟨p, o3, obc, q1, q2, q3, _⟩ := hOwn0 b q
            have := h1.inj o' o3 _ _ b k3 q3 hb' q2
            subst this
            exact k1 p q1
          · have := h1.blk_lt k3 hb'; omega
      by_cases d1 : D x1
      · by_cases d2 : D x2
        · rw [(hD x1 d1).2.1, (hD x2 d2).2.1]
        · exact (mixed x1 x2 ob1 ob2 hx1 hx2 hb1 hb2 d1 d2).elim
      · by_cases d2 : D x2
        · exact (mixed x2 x1 ob2 ob1 hx2 hx1 hb2 hb1 d2 d1).elim
        · obtain ⟨c1, l1⟩ := live x1 ob1 hx1 d1
          obtain ⟨c2, l2⟩ := live x2 ob2 hx2 d2
          exact h1.inj x1 x2 _ _ b l1 l2 (hβ2 x1 d1 ▸ hb1) (hβ2 x2 d2 ▸ hb2)
    · intro o ob b ho hb
      rcases cls o ob ho with hd | ⟨p, ob', obc, k1, k2, k3, k4, k5, k6⟩ | ⟨k1, k2, k3⟩
      · obtain ⟨_, _, e1, _⟩ := hD o hd
        rcases hrid b (e1 ▸ hb) (hDr o hd) with q | q
        · obtain ⟨p, o3, obc, q1, q2, q3, q4⟩ := hOwn0 b q
          exact .inr ⟨o3, obc, q3, fun _ => q4, q2⟩
        · exact .inl q
      · exact .inr ⟨o, obc, k5, fun _ => k6, hβ2 o k4 ▸ hb⟩
      · exact .inr ⟨o, ob, k3, id, hβ2 o k2 ▸ hb⟩
    · by_cases hd : D K.gid
      · obtain ⟨e0, _, _, ob, e1, _, e2, _⟩ := hD _ hd
        rw [e0, e1]
        cases ob <;> first | rfl | cases e2
      · by_cases hr : K.gid ∈ m.rows
        · obtain ⟨⟨p, hp⟩, e, t, y, hb⟩ := F.rows _ hr
          rw [hA _ hr hd, hlent p _ hp, hb]; rfl
        · by_cases hb : K.gid ∈ m.bxs
          · obtain ⟨⟨p, hp⟩, t, y, hb⟩ := F.bxs _ hb
            rcases g4 p _ hp with hr' | ⟨t', y1, y', k1, k2, k3⟩ | ⟨ob1, ob2, k1, k2, k3, k4⟩
            · exact absurd hr' hr
            · rw [hB _ _ k2 hd, hlent p _ hp, k1]; rfl
            · rw [hb] at k1; cases k1; rcases k2 with k2 | k2 <;> cases k2
          · rw [hC _ hr hb hd]
  have hbn : ((boxWr m.bxs (out.drop k.res.length)).map (·.1)).Nodup := by rw [g3]; exact F.bnd hnd
  have hrk : (m.rows.map fun o => ((o, none) : Nat × Option Ob)).map (·.1) = m.rows := by
    simp [List.map_map, Function.comp_def]
  have hW : ∀ wr₀, wr₀ = m.rows.map (fun o => (o, none)) ++ (boxWr m.bxs (out.drop k.res.length) ++ freeze s ids) → (after s wr₀).env = s1.env ∧ (∀ o ∈ m.rows, (after s wr₀).obs o = some none) ∧ (∀ o v, (o, v) ∈ boxWr m.bxs (out.drop k.res.length) → (after s wr₀).obs o = some v) ∧ ∀ o, o ∉ m.rows → o ∉ m.bxs → (after s wr₀).obs o = s1.obs o := by
    rintro wr₀ rfl
    rw [after_append, after_append, ← hs1]
    refine ⟨rfl, fun o ho => after_none _ _ ho, fun o v ho => ?_, fun o h1 h2 => ?_⟩
    · rw [after_out _ _ (by
        rw [hrk]
        intro hr
        obtain ⟨⟨p, hp⟩, e, t, y, hb⟩ := F.rows _ hr
        obtain ⟨_, t', y', hb'⟩ := F.bxs o (by rw [← g3]; exact List.mem_map.2 ⟨_, ho, rfl⟩)
        rw [hb] at hb'; cases hb')]
      exact after_in _ _ hbn ho
    · rw [after_out _ _ (by rw [hrk]; exact h1), after_out _ _ (by rw [g3]; exact h2)]
  rcases hform with ⟨hrow, hav', hwr⟩ | ⟨e₀, t, l, rr, hrow, hout', hobs, hr1, hav', hwr⟩
  · obtain ⟨w1, w2, w3, w4⟩ := hW _ hwr
    obtain ⟨r1, r2⟩ := fin (after s e.wr) β (fun _ => False) w1 (fun o ho _ => w2 o ho) (fun o v ho _ => w3 o v ho) (fun o h1 h2 _ => w4 o h1 h2) (fun _ h => h.elim) (fun _ _ => rfl) (fun _ h => h.elim)
    refine hn v w' β r1 ?_
    rw [hav']
    have : k.rav out = avOf (out.take k.res.length) := by unfold LCon.rav; rw [hrow]
    rw [this] at hav
    exact data_rep r2 hav
  · have hfr : k.fin f x out rid = some (some (.row false e₀ t l)) := by
      unfold LCon.fin
      rw [hrow, hout']
      exact put_same _ _ _
    have hsd : s1.obs d = none := by
      rw [hs1o]; unfold frO; rw [hobs]
    obtain ⟨w1, w2, w3, w4⟩ := hW _ rfl
    have ew : after s e.wr = { after s (m.rows.map (fun o => (o, none)) ++ (boxWr m.bxs (out.drop k.res.length) ++ freeze s ids)) with obs := put (after s (m.rows.map (fun o => (o, none)) ++ (boxWr m.bxs (out.drop k.res.length) ++ freeze s ids))).obs d (some (some (.row false e₀ t l))) } := by rw [hwr]; rfl
    rw [ew] at hn
    obtain ⟨r1, r2⟩ := fin { after s (m.rows.map (fun o => (o, none)) ++ (boxWr m.bxs (out.drop k.res.length) ++ freeze s ids)) with obs := put (after s (m.rows.map (fun o => (o, none)) ++ (boxWr m.bxs (out.drop k.res.length) ++ freeze s ids))).obs d (some (some (.row false e₀ t l))) } (Sx.put β d (β' rid)) (fun o => o = d) w1
      (fun o ho hd => by show put _ d _ o = _; rw [put_other _ _ hd]; exact w2 o ho) (fun o v ho hd => by show put _ d _ o = _; rw [put_other _ _ hd]; exact w3 o v ho) (fun o h1 h2 hd => by show put _ d _ o = _; rw [put_other _ _ hd]; exact w4 o h1 h2)
      (fun o hd => by subst hd; exact ⟨hsd, rfl, put_same _ _ _, _, put_same _ _ _, by rw [hsfo]; exact hfr, rfl, rfl⟩) (fun o hd => put_other _ _ hd) (fun _ _ => by rw [hrow]; rfl)
    refine hn v w' _ r1 ?_
    rw [hav']
    have : k.rav out = .s (.os rid) := by unfold LCon.rav; rw [hrow]
    rw [this] at hav
    simp only [AVRep, SVRep] at hav ⊢
    rw [hsfo, hfr] at hav
    show match put _ d _ d with | none => False | some none => True | some (some ob) => isRow ob = true ∧ v = _
    rw [put_same, put_same]
    exact ⟨rfl, hav.2⟩

theorem run_callVal {c : Call} {f : Operand} (hop : o.op = .call c) (hc : c.callee = .value f) {g₁ : FuncId} {caps : Array Value} (hf : a.eval f = .func (.func g₁) #[] caps) :
    (execOp a.eval o).run K.P w = (callFunc g₁ (c.args.map a.eval ++ caps)).run K.P w := by
  unfold execOp
  simp only [hop, resolve, hc, Deferred.ofValue, hf, Sem.run_bind, Sem.run_pure, Result.andThen_ok, invoke]
  simp

theorem svs_avs {M : Nat → Prop} : ∀ {l : List SV} {us : List Value}, All2 (SVRep K.P s β w M) l us → All2 (AVRep K.P s β w M) (l.map .s) us
  | [], [], _ => trivial
  | _ :: _, _ :: _, h => ⟨h.1, svs_avs h.2⟩
  | [], _ :: _, h => h.elim
  | _ :: _, [], h => h.elim

theorem upon_callVal (hcx : CxOk K.P cx) (h : RelB K s a w β) (hg : Hold a g) {c : Call} (hop : o.op = .call c) {f : Operand} (hc : c.callee = .value f) (he : callVal cx s d (ev cx s g 0 f) (argAVs (ev cx s g) c.args.toList c.argTypes.toList) = some e) (hob : ∀ r, e.obl = some r → r)
    (hn : ∀ v w' β', RelB K (after s e.wr) a w' β' → AVRep K.P (after s e.wr) β' w' (Mset K.Mg (after s e.wr) β') e.av v → next (a.put o.dst v) w') : o.wpIn (FF r) n K.P a w next Q := by
  have hf := ev_rep (cx := cx) h hg 0 f
  have hxs := args_rep (cx := cx) h hg c.args.toList c.argTypes.toList
  have hnd : ∀ c', o.op ≠ .defer c' := fun c' hh => by rw [hop] at hh; cases hh
  have hmap : (c.args.toList.map a.eval).toArray = c.args.map a.eval := by apply Array.ext'; simp
  generalize ev cx s g 0 f = af at he hf
  generalize argAVs (ev cx s g) c.args.toList c.argTypes.toList = axs at he hxs
  unfold callVal at he
  split at he
  · rename_i g₁ cs
    obtain ⟨us, ef, hus⟩ := hf
    split at he
    · rename_i kl hkl
      refine upon_callL hcx h hnd hkl hxs hus he hob ?_ hn
      rw [run_callVal hop hc ef, ← hmap]
      simp
    · refine upon_call hcx h hnd (hxs.append (svs_avs hus)) he hob ?_ hn
      rw [run_callVal hop hc ef, ← hmap]
      simp
  · rename_i t r₁ F
    split at he
    · rename_i x
      split at he
      · rename_i v hv
        split at he
        · rename_i y hy
          cases hfl : r₁.flat with
          | false => rw [hfl] at he; cases he
          | true =>
            rw [hfl] at he
            simp only [cond_true, Option.some.injEq] at he
            subst he
            have hpre := hob _ rfl
            cases hu : c.args.toList.map a.eval with
            | nil => rw [hu] at hxs; exact hxs.elim
            | cons u us =>
              rw [hu] at hxs
              cases us with
              | cons _ _ => exact hxs.2.elim
              | nil =>
                have hv' := castD_vrep hy (AV.dv_rep hcx h hxs.1 hv (under_mg h fun q hq => open_live hq))
                obtain ⟨_, ⟨fv, rfl, _, hF⟩, ef⟩ := hf
                have ef : a.eval f = fv := ef
                obtain ⟨g₁, caps, rfl, hent, hcall⟩ := hF w K.Mg u y (.refl _ _) hv' hpre
                refine upon_enter hnd ((run_callVal hop hc ef).trans (by rw [← hmap, hu]; exact hent _ _)) hcall ?_
                rintro e w' ⟨z, zs, rfl, hext, hz, rfl⟩
                obtain ⟨g1, g2⟩ := h.grow hext
                exact ⟨_, rfl, hn _ w' β g1 (VRep.flat hfl ⟨zs, hz, rfl⟩)⟩
        · cases he
      · cases he
    · cases he
  · rename_i t₁ t₂ r₁ F
    split at he
    · rename_i x x'
      split at he
      · rename_i v v' hv hv'
        split at he
        · rename_i y y' hy hy'
          cases hfl : r₁.flat with
          | false => rw [hfl] at he; cases he
          | true =>
            rw [hfl] at he
            simp only [cond_true, Option.some.injEq] at he
            subst he
            have hpre := hob _ rfl
            cases hu : c.args.toList.map a.eval with
            | nil => rw [hu] at hxs; exact hxs.elim
            | cons u us =>
              rw [hu] at hxs
              cases us with
              | nil => exact hxs.2.elim
              | cons u' us =>
                cases us with
                | cons _ _ => exact hxs.2.2.elim
                | nil =>
                  have hv1 := castD_vrep hy (AV.dv_rep hcx h hxs.1 hv (under_mg h fun q hq => open_live hq))
                  have hv2 := castD_vrep hy' (AV.dv_rep hcx h hxs.2.1 hv' (under_mg h fun q hq => open_live hq))
                  obtain ⟨_, ⟨fv, rfl, _, hF⟩, ef⟩ := hf
                  have ef : a.eval f = fv := ef
                  obtain ⟨g₁, caps, rfl, hent, hcall⟩ := hF w K.Mg u u' y y' (.refl _ _) hv1 hv2 hpre
                  refine upon_enter hnd ((run_callVal hop hc ef).trans (by rw [← hmap, hu]; exact hent _ _)) hcall ?_
                  rintro e w' ⟨z, zs, rfl, hext, hz, rfl⟩
                  obtain ⟨g1, g2⟩ := h.grow hext
                  exact ⟨_, rfl, hn _ w' β g1 (VRep.flat hfl ⟨zs, hz, rfl⟩)⟩
        · cases he
      · cases he
    · cases he
  · cases he

/-- **Every operation that the layer knows.** -/
theorem eff_sound (hcx : CxOk K.P cx) (h : RelB K s a w β) (hg : Hold a g) (he : eff cx s g o = some e) (hob : ∀ r, e.obl = some r → r)
    (hn : ∀ v w' β', RelB K (after s e.wr) a w' β' → AVRep K.P (after s e.wr) β' w' (Mset K.Mg (after s e.wr) β') e.av v → next (a.put o.dst v) w') : o.wpIn (FF r) n K.P a w next Q := by
  have hnd : ∀ c', o.op ≠ .defer c' := fun c' hh => by
    simp only [eff, hh] at he; cases o.dst <;> cases he
  have fin : Did K s a w o e → o.wpIn (FF r) n K.P a w next Q := fun hD => upon_did hnd hD hn
  cases hd : o.dst with
  | none =>
    by_cases hmu : ∃ T x y z, o.op = .mapUpdate T x y z
    · obtain ⟨T, x, y, z, hop⟩ := hmu
      have hav : e.av = .un := by
        have he' := he
        simp only [eff, hop, hd] at he'
        unfold mapUpdateEff at he'
        repeat' split at he'
        all_goals first | (cases he'; done) | skip
        rw [Bool.cond_eq_ite] at he'; split at he' <;> first | (cases he'; rfl) | cases he'
      exact upon_dids hnd hav (did_mapUpdate hcx h hg hop hd he hob) hn
    cases hop : o.op <;> simp only [eff, hop, hd, reduceCtorEq] at he
    case mapUpdate T x y z => exact absurd ⟨T, x, y, z, hop⟩ hmu
    rename_i T x y
    have he' := he
    have : e.av = .un := by
      unfold storeEff at he'
      repeat' split at he'
      all_goals first | (cases he'; done) | skip
      all_goals (rw [Bool.cond_eq_ite] at he'; split at he' <;> first | (cases he'; rfl) | cases he')
    exact upon_dids hnd this (did_store hcx h hg hop hd (by simp only [eff, hop, hd]; exact he)) hn
  | some d =>
    cases hop : o.op with
    | move x => exact fin (did_move (cx := cx) h hg (.inl hop) (by simp only [eff, hop, hd] at he; exact ok_some he))
    | assign x => exact fin (did_move (cx := cx) h hg (.inr hop) (by simp only [eff, hop, hd] at he; exact ok_some he))
    | pick c x y => exact fin (did_pick h hg hop hd he)
    | alloc T => exact fin (did_alloc hcx h hop hd he)
    | box T x => exact fin (did_box hcx h hg hop hd he)
    | build T ps => exact fin (did_build hcx h hg hop hd he)
    | buildSlice T m ps => exact fin (did_buildSlice hcx h hg hop hd he)
    | load T x => exact fin (did_load hcx h hg hop hd he)
    | binOp op T x y U => exact fin (did_binOp hcx h hg hop hd he hob)
    | unOp op T x => exact fin (did_unOp h hg hop hd he hob)
    | convert S T x => exact fin (did_convert hcx h hg hop hd he)
    | makeMap T m =>
      cases m with
      | none => exact fin (did_makeMap hcx h hop hd he)
      | some _ => simp only [eff, hop, hd, reduceCtorEq] at he
    | makeFunc f x y =>
      cases f with
      | func f => exact fin (did_makeFunc h hg hop hd he)
      | _ => simp only [eff, hop, hd, reduceCtorEq] at he
    | makeSlice T x y => exact fin (did_makeSlice hcx h hg hop hd he hob)
    | slice T x lo hi mx =>
      cases mx with
      | none => exact fin (did_slice hcx h hg hop hd he hob)
      | some _ => simp only [eff, hop, hd, reduceCtorEq] at he
    | fieldAddr T x k => exact fin (did_fieldAddr hcx h hg hop hd he)
    | field T x k => exact fin (did_field hcx h hg hop hd he)
    | indexAddr T x i => exact fin (did_indexAddr hcx h hg hop hd he hob)
    | index T x i => exact fin (did_index hcx h hg hop hd he hob)
    | extract x k => exact fin (did_extract h hg hop hd he)
    | call c =>
      simp only [eff, hop, hd] at he
      split at he
      · rename_i b hb
        unfold builtinEff at he
        split at he
        · rename_i x hx
          split at he
          · rename_i t l T hv hts
            split at he
            · rename_i t' hT
              exact fin (did_len hcx h hg hop hb hx hts hv hT (Option.some.inj he).symm)
            · cases he
          · cases he
        · split at he
          · rename_i l hl
            simp only [Option.bind_eq_some_iff] at he
            obtain ⟨m, hm, he⟩ := he
            exact fin (did_maxmin h hg hop hb hl (.inl ⟨rfl, hm⟩) (ok_some he))
          · cases he
        · split at he
          · rename_i l hl
            simp only [Option.bind_eq_some_iff] at he
            obtain ⟨m, hm, he⟩ := he
            exact fin (did_maxmin h hg hop hb hl (.inr ⟨rfl, hm⟩) (ok_some he))
          · cases he
        · rename_i x y hx
          split at he
          · rename_i T T' hts
            exact fin (did_append hcx h hg hop hb hx hts he hob)
          · cases he
        · cases he
      · rename_i f hf
        exact upon_callVal hcx h hg hop hf he hob hn
      · cases he
    | _ => simp only [eff, hop, hd, reduceCtorEq] at he
end
end Go.Sx
