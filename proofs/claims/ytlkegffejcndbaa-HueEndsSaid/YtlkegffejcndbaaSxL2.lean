/-
  The symbolic layer, part 21b: operations of which what they yield is not known ahead.
-/
import Derived.Test.YtlkegffejcndbaaSxL
set_option linter.all false
namespace Go.Sx

/-- The rounds' function, as an iterator may call it. -/
structure YFit (K : Ctx) (y : YInfo) : Prop where
  gid : K.gid = y.gid
  nod : K.nod
  ml : ∀ b, ¬ K.Ml b
  mf : ∀ b, K.Mf b
  pins : K.pins = []
  lt : ∀ g G M w, K.J g G M w → ∀ b, M b → b < w.heap.size
  call : ∀ p e r G M w us, y.all = p ++ e :: r → K.J (some ⟨yTy y.elt, (p, false)⟩) G M w → (∃ cs, YR y.two y.elt us cs ∧ Rep K.P y.elt w (fun b => M b ∨ G b) cs e) → (∀ b, G b → ¬ M b ∧ K.w0.heap.size ≤ b) → (∀ b, G b → b < w.heap.size) →
    YieldAt (FF none) 0 K.P y.ly us.toArray w fun r w₂ =>
      (r = .returned (.bool true) ∧ ∃ M₂, K.J (some ⟨yTy y.elt, (p ++ [e], false)⟩) G M₂ w₂ ∧ Trx M w M₂ w₂) ∨ (r = .returned (.bool false) ∧ ∃ M₂, K.J (some ⟨yTy y.elt, (p ++ [e], true)⟩) G M₂ w₂ ∧ Trx M w M₂ w₂)
/-- What a run of code is held against. -/
structure Fit (K : Ctx) (cx : Cx) : Prop where
  nt : cx.nt = K.nt
  mixed : K.P.follows .mixedOrders = true
  yl : match cx.yl with
    | none => (∀ g G M w, K.J g G M w) ∧ ¬ K.nod
    | some y => YFit K y

section
variable {K : Ctx} {s : ASt} {a : Act} {w w' : World} {β : Nat → Loc} {cx : Cx} {g : List (Nat × Bool)} {o : Oper} {e : Eff} {d : Nat}
variable {r : Option Nat} {n : Nat} {next : Act → World → Prop} {Q : Exit → Act → World → Prop} {ops : Array Oper}

theorem Ctx.mg_P {M : Nat → Prop} : (K.mg M).P = K.P := rfl
theorem Fit.mg (h : Fit K cx) (M : Nat → Prop) : Fit (K.mg M) cx := by
  refine ⟨h.nt, h.mixed, ?_⟩
  have := h.yl
  split <;> rename_i hy <;> rw [hy] at this
  · exact this
  · exact ⟨this.gid, this.nod, this.ml, this.mf, this.pins, this.lt, this.call⟩

/-- A round has gone by. -/
theorem RelB.round (h : RelB K s a w β) {y : YInfo} (hy : YFit K y) {M₂ : Nat → Prop} {w₂ : World} (ht : Trx K.Mg w M₂ w₂) {t t' : Ty} {x : t.D} {x' : t'.D} (hg : s.obs y.gid = some (some (.gh t x))) (hJ : K.J (some ⟨t', x'⟩) (Own s β) M₂ w₂) :
    RelB (K.mg M₂) { s with obs := put s.obs y.gid (some (some (.gh t' x'))) } a w₂ β ∧ Tr (Mset K.Mg s β) w (Mset M₂ { s with obs := put s.obs y.gid (some (some (.gh t' x'))) } β) w₂ := by
  have hgl : (β y.gid).blk = none := h.ob _ _ hg
  have hcase : ∀ o ob, put s.obs y.gid (some (some (.gh t' x'))) o = some (some ob) → (o = y.gid ∧ ob = .gh t' x') ∨ (o ≠ y.gid ∧ s.obs o = some (some ob)) := by
    intro o ob ho
    by_cases e : o = y.gid
    · subst e; rw [put_same] at ho; cases ho; exact .inl ⟨rfl, rfl⟩
    · rw [put_other _ _ e] at ho; exact .inr ⟨e, ho⟩
  have hlive : ∀ o ob b, put s.obs y.gid (some (some (.gh t' x'))) o = some (some ob) → (β o).blk = some b → s.obs o = some (some ob) := by
    intro o ob b ho hb
    rcases hcase o ob ho with ⟨rfl, rfl⟩ | ⟨_, h2⟩
    · rw [hgl] at hb; cases hb
    · exact h2
  have hown : ∀ b, Own { s with obs := put s.obs y.gid (some (some (.gh t' x'))) } β b → Own s β b := by
    rintro b ⟨o, ob, ho, hf, hb⟩
    exact ⟨o, ob, hlive o ob b ho hb, hf, hb⟩
  have hown' : ∀ b, Own s β b → Own { s with obs := put s.obs y.gid (some (some (.gh t' x'))) } β b := by
    rintro b ⟨o, ob, ho, hf, hb⟩
    refine ⟨o, ob, ?_, hf, hb⟩
    show put s.obs y.gid _ o = _
    rw [put_other _ _ (fun e => by rw [e, hgl] at hb; cases hb)]; exact ho
  have hown2 : Own { s with obs := put s.obs y.gid (some (some (.gh t' x'))) } β = Own s β := funext fun b => propext ⟨hown b, hown' b⟩
  have htr : Tr (Mset K.Mg s β) w (Mset M₂ { s with obs := put s.obs y.gid (some (some (.gh t' x'))) } β) w₂ := by
    refine ⟨(ht.1.mono fun b _ hb => .inl hb).loose, fun b hb hm => ?_⟩
    rcases hm with hm | hm
    · exact .inl (ht.2 b hb hm)
    · exact .inr (hown b hm)
  have hcc : Compat s β { s with obs := put s.obs y.gid (some (some (.gh t' x'))) } β := by
    refine ⟨fun o ho => ?_, fun o ob ho => .inr ?_⟩
    · show put s.obs y.gid _ o = _
      rw [put_other _ _ (fun e => by rw [e, hg] at ho; cases ho)]; exact ho
    · by_cases e : o = y.gid
      · subst e
        rw [hg] at ho; cases ho
        exact ⟨_, put_same _ _ _, rfl, fun _ h => h, fun _ => rfl, rfl, rfl⟩
      · exact ⟨ob, (put_other _ _ e).trans ho, rfl, .refl _⟩
  have hblk : ∀ o ob b, s.obs o = some (some ob) → (β o).blk = some b → w₂.heap[b]? = w.heap[b]? := fun o ob b ho hb => ht.1.2 b (h.blk_lt ho hb) (h.dis o ob b ho hb)
  refine ⟨⟨?_, ?_, ?_, ?_, ?_, ?_, ?_, h.size, ?_, h.dnd, h.nod, ?_, ?_, h.fix, h.posC hcc⟩, htr⟩
  · exact ⟨Nat.le_trans h.frame.1 ht.1.1, fun b _ hn => absurd (hy.mf b) hn, ht.1.io.1.trans h.frame.io.1, ht.1.io.2.trans h.frame.io.2⟩
  · exact hy.lt _ _ _ _ hJ
  · intro o ob b ho hb hM
    have ho := hlive o ob b ho hb
    exact h.dis o ob b ho hb (ht.2 b (h.blk_lt ho hb) hM)
  · intro o ob ho
    rcases hcase o ob ho with ⟨rfl, rfl⟩ | ⟨_, h2⟩
    · exact hgl
    · exact (h.ob o ob h2).next hcc htr fun b hb => hblk o ob b h2 hb
  · intro o o' ob ob' b ho ho' hb hb'
    exact h.inj o o' ob ob' b (hlive o ob b ho hb) (hlive o' ob' b ho' hb') hb hb'
  · intro o ob b ho hf hb
    exact h.rng o ob b (hlive o ob b ho hb) hf hb
  · intro t
    exact ⟨fun hg => ((h.env t).1 hg).next hcc htr, (h.env t).2⟩
  · intro d hd
    obtain ⟨D, rfl, hD, hm, hm2⟩ := h.defs d hd
    have hlt : D < w.heap.size := (Array.getElem?_eq_some_iff.1 hD).1
    exact ⟨D, rfl, (ht.1.2 D hlt hm).trans hD, fun hM => hm (ht.2 D hlt hM), hm2⟩
  · intro x hx
    have hx : x ∈ K.pins := hx
    rw [hy.pins] at hx; cases hx
  · show K.J (ghOf (put s.obs y.gid _ K.gid)) (Own _ β) M₂ w₂
    rw [hy.gid, put_same, hown2]
    exact hJ

theorem upon_round (hop : ∀ c, o.op ≠ .defer c) {l : Nat} {us : Array Value} (hrun : (execOp a.eval o).run K.P w = (Instr.yield l us).run K.P w) {R : Ending → World → Prop} (hc : YieldAt (FF none) 0 K.P l us w R)
    (hR : ∀ e w', R e w' → ∃ v, e = .returned v ∧ next (a.put o.dst v) w') : o.wpIn (FF r) n K.P a w next Q := by
  obtain ⟨fn, tmps, assign, body, hy, hround⟩ := hc
  refine wpIn_of_run hop ?_
  rw [hrun, hy]
  refine ⟨fun h => (by cases h), ?_⟩
  refine RoundIn.mono (R := R) ⟨trivial, fun c cs hroom => ?_⟩ ?_
  · obtain ⟨e, w', hr, hs⟩ := hround.2 c cs (by intro d h; cases h)
    exact ⟨e, w', hr, hs⟩
  · intro e w' he
    obtain ⟨v, rfl, hv⟩ := hR e w' he
    exact hv

theorem yArgs_rep {P : Program} {M : Nat → Prop} {two : Bool} {elt : Ty} {vs : List Dv} {us : List Value} {e : elt.D} (h : yArgs two elt vs = some e) (hr : All2 (fun (u : Value) (d : Dv) => VRep P d.t w M u d.x) us vs) : ∃ cs, YR two elt us cs ∧ Rep P elt w M cs e := by
  unfold yArgs at h
  split at h
  · rename_i t v
    cases us with
    | nil => exact hr.elim
    | cons u us =>
      cases us with
      | cons _ _ => exact hr.2.elim
      | nil =>
        obtain ⟨cs, h1, h2⟩ := castD_vrep h hr.1
        exact ⟨cs, by rw [h2]; rfl, h1⟩
  · rename_i ta tb v v'
    split at h
    · rename_i x y h1 h2
      cases h
      cases us with
      | nil => exact hr.elim
      | cons u us =>
        cases us with
        | nil => exact hr.2.elim
        | cons u' us =>
          cases us with
          | cons _ _ => exact hr.2.2.elim
          | nil =>
            obtain ⟨cs, g1, rfl⟩ := castD_vrep h1 hr.1
            obtain ⟨ds, g2, rfl⟩ := castD_vrep h2 hr.2.1
            have l1 := g1.length
            refine ⟨cs ++ ds, ?_, cs, ds, rfl, g1, g2⟩
            show [pack ta cs, pack tb ds] = [pack ta ((cs ++ ds).take ta.n), pack tb ((cs ++ ds).drop ta.n)]
            rw [← l1, List.take_left, List.drop_left]
    · cases h
  · cases h

/-- **Operations of the other kind.** -/
theorem rel_sound (hcx : CxOk K.P cx) (hf : Fit K cx) (h : RelB K s a w β) {T : (Eff → Prop) → Prop} (hT : relEff cx s o = some T) {Qe : Eff → Prop} (hQ : T Qe)
    (hn : ∀ M e v w' β', (cx.yl = none → M = K.Mg) → Qe e → RelB (K.mg M) (after s e.wr) a w' β' → AVRep K.P (after s e.wr) β' w' (Mset M (after s e.wr) β') e.av v → next (a.put o.dst v) w') : o.wpIn (FF r) n K.P a w next Q := by
  have hg : Hold a [] := fun x hx => by cases hx
  have hKm : K.mg K.Mg = K := rfl
  unfold relEff at hT
  split at hT
  · -- a look-up
    rename_i T' m k d hop hd
    have hop : o.op = .lookup T' m k true := hop
    simp only [Option.some.injEq] at hT
    subst hT
    have hm := ev_rep (cx := cx) h hg T' m
    have hk := ev_rep (cx := cx) h hg (keyTy cx T') k
    generalize ev cx s [] T' m = am at hQ hm
    generalize ev cx s [] (keyTy cx T') k = ak at hQ hk
    unfold lookupRel at hQ
    split at hQ
    · rename_i q
      split at hQ
      · rename_i tk tv inv hq
        simp only [AVRep, SVRep, hq] at hm
        obtain ⟨_, b, hb, em⟩ := hm
        split at hQ
        · rename_i xd hxd
          split at hQ
          · rename_i x hx
            cases hmt : mapTys cx T' tk tv with
            | false => rw [hmt] at hQ; exact hQ.elim
            | true =>
              rw [hmt] at hQ
              simp only [cond_true] at hQ
              have hkv := castD_vrep hx (AV.dv_rep hcx h hk hxd (under_mg h fun q hq => open_live hq))
              obtain ⟨b', es, ck, kt, et, hb', hh, hu, hchk, hes, hetv, hzok, hfind⟩ := map_find hcx h hq hmt hkv
              rw [hb] at hb'; cases hb'
              have hnd : ∀ c', o.op ≠ .defer c' := fun c' hc' => by rw [hop] at hc'; cases hc'
              refine wpIn_of_run hnd ?_
              rcases hfind with hf' | ⟨j, e, hf', hj, hke, hst, y, hy, hinv⟩
              · have hz := (hcx.ty et tv hetv).zero hzok w
                have hrun : (execOp a.eval o).run K.P w = .ok (.value (.tuple #[pack tv (zc tv), .bool false])) w := by
                  simp [execOp, hop, em, Instr.lookup, run_underlying hu, MapKept.run_getObj_map hh, hchk, hf', hz, Result.andThen]
                rw [hrun]
                refine hn K.Mg _ _ w β (fun _ => rfl) hQ.2 (by rw [hKm]; exact h) ?_
                exact ⟨[pack tv (zc tv), .bool false], rfl, ⟨zc tv, zc_rep tv w _ hzok, rfl⟩, ⟨_, rfl, rfl⟩, trivial⟩
              · have hrun : (execOp a.eval o).run K.P w = .ok (.value (.tuple #[e.val, .bool true])) w := by
                  simp [execOp, hop, em, Instr.lookup, run_underlying hu, MapKept.run_getObj_map hh, hchk, hf', Result.andThen]
                rw [hrun]
                refine hn K.Mg _ _ w β (fun _ => rfl) (hQ.1 y hinv) (by rw [hKm]; exact h) ?_
                exact ⟨[e.val, .bool true], rfl, hy, ⟨_, rfl, rfl⟩, trivial⟩
          · exact hQ.elim
        · exact hQ.elim
      · exact hQ.elim
    · exact hQ.elim
  · -- a call of the rounds' function
    rename_i c d hop hd
    have hop : o.op = .call c := hop
    dsimp only at hT
    split at hT
    · rename_i f y hc hyl
      split at hT
      · rename_i ly hev
        simp only [Option.some.injEq] at hT
        subst hT
        have hfit : YFit K y := by have := hf.yl; rw [hyl] at this; exact this
        have hff := ev_rep (cx := cx) h hg 0 f
        rw [hev] at hff
        have hff : a.eval f = .func (.yield ly) #[] #[] := hff
        have hxs := args_rep (cx := cx) h hg c.args.toList c.argTypes.toList
        generalize argAVs (ev cx s []) c.args.toList c.argTypes.toList = axs at hQ hxs
        unfold yieldRel at hQ
        split at hQ
        · rename_i t x vs ids fz hgh hsol
          split at hQ
          · rename_i l e hl he
            cases hcd : (!memN y.gid (fz.map (·.1))) with
            | false => rw [hcd] at hQ; exact hQ.elim
            | true =>
              rw [hcd] at hQ
              simp only [cond_true] at hQ
              obtain ⟨⟨hly, hx2⟩, ⟨rr, hall⟩, hq1, hq2⟩ := hQ
              obtain ⟨et, el⟩ := castD_some hl
              cases et
              have el : l = x.1 := el
              subst el
              obtain ⟨h1, h2, h3, h4⟩ := solid_rep hcx h hsol hxs
              have hg1 : (after s fz).obs y.gid = some (some (.gh (.p (.sl y.elt) .bo) x)) := by
                have : (after s fz).obs y.gid = frO s (axs.flatMap (AV.open? s)) y.gid := by
                  unfold solid at hsol
                  split at hsol
                  · cases hsol; exact freeze_obs s _ _
                  · cases hsol
                rw [this]; unfold frO; rw [hgh]; simp [frOb]
              have hJ0 := h1.gh
              rw [hfit.gid, hg1] at hJ0
              have hx' : x = (x.1, false) := by rw [← hx2]
              have hJ1 : K.J (some ⟨yTy y.elt, (x.1, false)⟩) (Own (after s fz) β) K.Mg w := by
                have e1 : ghOf (some (some (Ob.gh (.p (.sl y.elt) .bo) x))) = some ⟨yTy y.elt, (x.1, false)⟩ := by
                  show some (Dv.mk _ x) = _
                  rw [hx']; rfl
                rw [e1] at hJ0; exact hJ0
              have hG : ∀ b, Own (after s fz) β b → ¬ K.Mg b ∧ K.w0.heap.size ≤ b := by
                rintro b ⟨p, ob, p1, p2, p3⟩
                exact ⟨h1.dis p ob b p1 p3, (h1.rng p ob b p1 p2 p3).resolve_right (hfit.ml b)⟩
              have hG2 : ∀ b, Own (after s fz) β b → b < w.heap.size := by
                rintro b ⟨p, ob, p1, p2, p3⟩
                exact h1.blk_lt p1 p3
              have hargs := yArgs_rep he h4
              have hY := hfit.call x.1 e rr (Own (after s fz) β) K.Mg w (c.args.toList.map a.eval) hall hJ1 hargs hG hG2
              have hly : ly = y.ly := hly
              subst hly
              have hnd : ∀ c', o.op ≠ .defer c' := fun c' hc' => by rw [hop] at hc'; cases hc'
              have hmap : (c.args.toList.map a.eval).toArray = c.args.map a.eval := by apply Array.ext'; simp
              refine upon_round hnd (l := y.ly) (us := (c.args.toList.map a.eval).toArray) ?_ hY ?_
              · unfold execOp
                simp only [hop, resolve, hc, Deferred.ofValue, hff, Sem.run_bind, Sem.run_pure, Result.andThen_ok, invoke]
                rw [hmap]; simp
              · intro r' w₂ hr'
                rcases hr' with ⟨rfl, M₂, hJ2, ht⟩ | ⟨rfl, M₂, hJ2, ht⟩
                · obtain ⟨k1, k2⟩ := h1.round hfit ht hg1 hJ2
                  exact ⟨_, rfl, hn M₂ _ _ w₂ β (fun e => by rw [hyl] at e; cases e) hq1 k1 mk_bool⟩
                · obtain ⟨k1, k2⟩ := h1.round hfit ht hg1 hJ2
                  exact ⟨_, rfl, hn M₂ _ _ w₂ β (fun e => by rw [hyl] at e; cases e) hq2 k1 mk_bool⟩
          · exact hQ.elim
        · exact hQ.elim
      · cases hT
    · cases hT
  · -- a slice held against nil
    rename_i T' x y u d hop hd
    have hop : o.op = .binOp .eql T' x y u := hop
    obtain ⟨hnil, hT⟩ := cond_opt' hT
    subst hT
    obtain rfl : y = .const (.slice none 0 0) := by
      unfold isNil at hnil
      split at hnil
      · rfl
      · cases hnil
    have hx := ev_rep (cx := cx) h hg T' x
    generalize ev cx s [] T' x = ax at hQ hx
    unfold nilRel at hQ
    split at hQ
    · rename_i t₀ t l hT0 hxd
      have hv : VRep K.P (.sl t) w K.Mg (a.eval x) l := AV.dv_rep hcx h hx hxd (under_mg h fun q hq => open_live hq)
      obtain ⟨ad, cap, ev, hle, hm⟩ := sl_val hv
      have hnd : ∀ c', o.op ≠ .defer c' := fun c' hc' => by rw [hop] at hc'; cases hc'
      refine wpIn_of_run hnd ?_
      have hus := (sl_facts (hcx.ty T' _ hT0)).1
      have hrun : (execOp a.eval o).run K.P w = .ok (.value (.bool ad.isNone)) w := by
        have e0 : a.eval (.const (.slice none 0 0)) = .slice none 0 0 := rfl
        have heq : (Op.equal T' (.slice ad (l : List t.D).length cap) (.slice none 0 0)).run K.P w = .ok ad.isNone w := by
          have key : ∀ dd : Nat, (Op.equalIn (dd + 1) T' (.slice ad (l : List t.D).length cap) (.slice none 0 0)).run K.P w = .ok ad.isNone w := fun dd => by
            cases ad <;> simp [Op.equalIn, run_underlying hus]
          exact key 9999
        simp [execOp, hop, ev, e0, eqGuard, binOp, heq]
      rw [hrun]
      cases ad with
      | none =>
        have hl0 : l = [] := by
          rcases hm with h0 | ⟨b, off, vss, h0, _⟩
          · exact h0
          · cases h0
        exact hn K.Mg _ _ w β (fun _ => rfl) (hQ.1 hl0) (by rw [hKm]; exact h) mk_bool
      | some p => exact hn K.Mg _ _ w β (fun _ => rfl) hQ.2 (by rw [hKm]; exact h) mk_bool
    · exact hQ.elim
  · cases hT

theorem vcSeq_sound (hgo : guardsOk ops = true) {G : ASt → Prop} : ∀ {l : List Oper} {K : Ctx} {k : Nat} {s : ASt} {a : Act} {w : World} {β : Nat → Loc}, CxOk K.P cx → Fit K cx → FixO K ops → (∀ j, l[j]? = ops[k + j]?) → vcSeq cx ops l s G → RelB K s a w β → GInv ops (fun j => j < k) s →
    (∀ M s' a' w' β', (cx.yl = none → M = K.Mg) → RelB (K.mg M) s' a' w' β' → NoG s' → G s' → Q .normal a' w') → wpListIn (FF r) n K.P ops Q l a w
  | [], K, k, s, a, w, β, _, _, _, _, hr, h, _, hQ => hQ K.Mg _ a w β (fun _ => rfl) (h.bare : RelB K s.bare a w β) (NoG.bare _) hr
  | o :: l, K, k, s, a, w, β, hcx, hf, hfx, hl, hv, h, hG, hQ => by
    have hk : ops[k]? = some o := by simpa using (hl 0).symm
    have hDj : ∀ j b, guardAt ops k = some (j, b) → j < k := fun j b hj => (guards_fact hgo hj).1
    have hnext : ∀ j, l[j]? = ops[k + 1 + j]? := fun j => by
      have := hl (j + 1)
      simp only [List.getElem?_cons_succ] at this
      rw [this]; congr 1; omega
    have go : ∀ {g e}, chain s ops o = some g → GInv ops (fun j => j < k + 1) (s.app o.dst g e) := by
      intro g e hch
      have hform := (chain_fact h hch).2
      have hG' := gInv_app (e := e) hgo hG hk (Nat.lt_irrefl k) hDj hform
      intro t x hx
      obtain ⟨j, hj, rest⟩ := hG' t x hx
      exact ⟨j, by rcases hj with hj | hj <;> omega, rest⟩
    simp only [vcSeq] at hv
    split at hv
    · exact hv.elim
    · rename_i g hch
      split at hv
      · -- one of the other kind
        rename_i hch T hT
        cases hnt : ntOk cx.nt o.dst with
        | false => rw [hnt] at hv; exact hv.elim
        | true =>
          rw [hnt] at hv
          simp only [cond_true] at hv
          have hw : Region.wanted o (yielded ops a.tmps) = true := (chain_fact h hch).1.2 (fun x hx => by cases hx)
          show if Region.wanted o (yielded ops a.tmps) then _ else _
          rw [if_pos hw]
          refine rel_sound hcx hf h hT hv ?_
          intro M e v w' β' hMy hq h1 h2
          have hstep : RelB (K.mg M) (s.app o.dst [] e) (a.put o.dst v) w' β' := by
            cases hd : o.dst with
            | none =>
              rw [put_none]
              have : s.app none [] e = after s e.wr := rfl
              rw [this]; exact h1
            | some d =>
              rw [hd] at hnt
              have hdn : d < K.nt := by rw [← hf.nt]; exact Nat.le_of_ble_eq_true hnt
              have := h1.slot (d := d) (v := v) (e := ⟨[], e.av⟩) hdn (hfx k o d hk hd) (dst_fresh hgo hG hk (Nat.lt_irrefl k) hd) (fun x hx => by cases hx) ⟨fun _ => h2, fun hh => absurd (fun x hx => by cases hx) hh⟩
              exact this
          exact vcSeq_sound (K := K.mg M) hgo (k := k + 1) hcx (hf.mg M) hfx hnext hq hstep (go hch) (fun M' s' a' w' β' hM' => hQ M' s' a' w' β' (fun e => (hM' e).trans (hMy e)))
      · rename_i g hch _ _
        split at hv
        · exact hv.elim
        · rename_i e he
          cases hB : (gwOk g e.wr && ntOk cx.nt o.dst) with
          | false => rw [hB] at hv; exact hv.elim
          | true =>
            rw [hB] at hv
            simp only [cond_true] at hv
            simp only [Bool.and_eq_true] at hB
            obtain ⟨k1, k2⟩ := hB
            obtain ⟨hob, hv⟩ := hv
            have hgw : g ≠ [] → e.wr = [] := by
              intro hne
              cases hww : e.wr with
              | nil => rfl
              | cons x m => cases g with
                | nil => exact absurd rfl hne
                | cons y m => rw [hww] at k1; cases k1
            refine op_step hcx hf.nt hgo h hG hk (Nat.lt_irrefl k) hDj hch he hgw ?_ (fun d hd => hfx k o d hk hd) ?_ ?_
            · intro d hd
              rw [hd] at k2
              exact Nat.le_of_ble_eq_true k2
            · intro p hp hc
              rw [hp] at hob
              cases hgc : gCond s g with
              | none => rw [hgc] at hob; exact hob
              | some c => rw [hgc] at hob; exact hob (hc c hgc)
            · intro a' w' β' hrel
              exact vcSeq_sound (K := K) hgo (k := k + 1) hcx hf hfx hnext hv hrel (go hch) hQ
end
end Go.Sx
