/-
  The symbolic layer, part 23: what a piece of code leaves alone; loops.
-/
import Derived.Test.YtlkegffejcndbaaSxM
set_option linter.all false
namespace Go.Sx
section
variable {cx : Cx} {ops : Array Oper}

def Fr (ds : List Nat) (s s' : ASt) : Prop := ∀ t, t ∉ ds → s'.env t = s.env t ∨ s'.env t = ⟨[], .un⟩
theorem Fr.refl (ds : List Nat) (s : ASt) : Fr ds s s := fun _ _ => .inl rfl
theorem Fr.trans {ds ds' : List Nat} {s s' s'' : ASt} (h : Fr ds s s') (h' : Fr ds' s' s'') : Fr (ds ++ ds') s s'' := by
  intro t ht
  simp only [List.mem_append, not_or] at ht
  rcases h' t ht.2 with h2 | h2
  · rw [h2]; exact h t ht.1
  · exact .inr h2
theorem Fr.mono {ds ds' : List Nat} {s s' : ASt} (h : Fr ds s s') (hs : ∀ t ∈ ds, t ∈ ds') : Fr ds' s s' := fun t ht => h t fun h' => ht (hs t h')

theorem runOps_env : ∀ {l : List Oper} {s : ASt} {R : Run}, runOps cx ops l s = some R → ∀ t, t ∉ l.filterMap (·.dst) → R.s.env t = s.env t
  | [], s, R, h, t, _ => by simp only [runOps, Option.some.injEq] at h; subst h; rfl
  | o :: l, s, R, h, t, ht => by
    obtain ⟨g, e, R', _, _, _, _, h5, h6, _⟩ := runOps_cons h
    have hne : o.dst ≠ some t := fun hd => ht (List.mem_filterMap.2 ⟨o, List.mem_cons_self, hd⟩)
    have ht' : t ∉ l.filterMap (·.dst) := fun h' => by
      obtain ⟨o', ho', hd⟩ := List.mem_filterMap.1 h'
      exact ht (List.mem_filterMap.2 ⟨o', List.mem_cons_of_mem _ ho', hd⟩)
    rw [h6, runOps_env h5 t ht', app_env, if_neg hne]

theorem conj_mono {p q : Prop} (h : p → q) : ∀ {l : List Prop}, conj l p → conj l q
  | [], hp => h hp
  | _ :: _, hp => ⟨hp.1, conj_mono h hp.2⟩

theorem bare_fr {ds : List Nat} {s s' : ASt} (h : ∀ t, t ∉ ds → s'.env t = s.env t) : Fr ds s s'.bare := by
  intro t ht
  simp only [ASt.bare]
  split
  · exact .inl (h t ht)
  · exact .inr rfl

theorem spread_fr {ds : List Nat} : ∀ {sl : List (Nat × Bool)} {ob : List Nat} {hs : List Shp} {x : Shps hs} {s : ASt}, (∀ y ∈ sl, y.1 ∈ ds) → ∀ t, t ∉ ds → (spread s sl ob hs x).env t = s.env t := by
  have slot : ∀ (s : ASt) (t : Nat) (h : Shp) (x : h.D), t ∈ ds → ∀ t', t' ∉ ds → (putSlot s t h x).env t' = s.env t' := by
    intro s t h x ht t' ht'
    cases h <;> first | exact put_other _ _ (fun e => ht' (e ▸ ht)) | rfl
  have obj : ∀ (s : ASt) (o : Nat) (h : Shp) (x : h.D), (putObj s o h x).env = s.env := by
    intro s o h x; cases h <;> rfl
  intro sl ob hs
  induction hs generalizing sl ob with
  | nil => intro x s _ t _; rcases sl with _ | ⟨y, _ | ⟨y', sl⟩⟩ <;> rcases ob with _ | ⟨o, _ | ⟨o', ob⟩⟩ <;> rfl
  | cons h hs ih =>
    intro x s hsl t ht
    cases hs with
    | nil =>
      match sl, ob with
      | [], [] => rfl
      | [(t', r)], [] => exact slot _ _ _ _ (hsl _ List.mem_cons_self) t ht
      | [], [o] => exact congrFun (obj _ _ _ _) t
      | (t', r) :: y :: sl, ob => rfl
      | [(t', r)], o :: ob => rfl
      | [], o :: o' :: ob => rfl
    | cons h' hs =>
      match sl, ob with
      | [], [] => rfl
      | (t', r) :: sl, ob =>
        have e : spread s ((t', r) :: sl) ob (h :: h' :: hs) x = putSlot (spread s sl ob (h' :: hs) x.2) t' h x.1 := by
          cases sl <;> cases ob <;> rfl
        rw [e, slot _ _ _ _ (hsl _ List.mem_cons_self) t ht]
        exact ih (fun y hy => hsl y (List.mem_cons_of_mem _ hy)) t ht
      | [], o :: ob =>
        have e : spread s [] (o :: ob) (h :: h' :: hs) x = putObj (spread s [] ob (h' :: hs) x.2) o h x.1 := by
          cases ob <;> rfl
        rw [e, obj]
        exact ih (fun y hy => by cases hy) t ht

theorem annOk_slots {yl : Option YInfo} {a : LoopAnn} {ds : List Nat} (h : annOk yl a ds = true) : ∀ y ∈ a.slots, y.1 ∈ ds := by
  simp only [annOk, Bool.and_eq_true, List.all_eq_true] at h
  exact fun y hy => memN_iff.1 (h.2.1 y hy).1
theorem head_fr {yl : Option YInfo} {nt : Nat} {s : ASt} {a : LoopAnn} {ds : List Nat} (h : annOk yl a ds = true) {hs : List Shp} (x : Shps hs) : Fr ds s (spread (headBase nt s a ds) a.slots a.objs hs x) := by
  intro t ht
  rw [spread_fr (annOk_slots h) t ht]
  simp only [headBase]
  cases (memN t ds || (!(s.env t).v.within (a.objs ++ a.keep) || !Nat.ble (t + 1) nt)) with
  | true => exact .inr rfl
  | false => exact .inl rfl

theorem relEff_mono {s : ASt} {o : Oper} {T : (Eff → Prop) → Prop} (hT : relEff cx s o = some T) {Q Q' : Eff → Prop} (h : ∀ e, Q e → Q' e) (hQ : T Q) : T Q' := by
  unfold relEff at hT
  split at hT
  · simp only [Option.some.injEq] at hT
    subst hT
    revert hQ
    unfold lookupRel
    split
    · split
      · split
        · split
          · rw [Bool.cond_eq_ite, Bool.cond_eq_ite]
            split
            · exact fun hQ => ⟨fun y hy => h _ (hQ.1 y hy), h _ hQ.2⟩
            · exact id
          · exact id
        · exact id
      · exact id
    · exact id
  · dsimp only at hT
    split at hT
    · split at hT
      · simp only [Option.some.injEq] at hT
        subst hT
        revert hQ
        unfold yieldRel
        split
        · split
          · rw [Bool.cond_eq_ite, Bool.cond_eq_ite]
            split
            · exact fun hQ => ⟨hQ.1, hQ.2.1, h _ hQ.2.2.1, h _ hQ.2.2.2⟩
            · exact id
          · exact id
        · exact id
      · cases hT
    · cases hT
  · obtain ⟨_, hT⟩ := cond_opt' hT
    subst hT
    revert hQ
    unfold nilRel
    split
    · exact fun hQ => ⟨fun e => h _ (hQ.1 e), h _ hQ.2⟩
    · exact id
  · cases hT
theorem vcSeq_frame {G G' : ASt → Prop} : ∀ {l : List Oper} {s : ASt}, vcSeq cx ops l s G → (∀ s', G s' → Fr (l.filterMap (·.dst)) s s' → G' s') → vcSeq cx ops l s G'
  | [], s, h, hq => hq _ h (bare_fr fun t _ => rfl)
  | o :: l, s, h, hq => by
    have fr : ∀ {g : List (Nat × Bool)} {e : Eff} {s' : ASt}, Fr (l.filterMap (·.dst)) (s.app o.dst g e) s' → Fr ((o :: l).filterMap (·.dst)) s s' := by
      intro g e s' hf t ht
      have ht' : t ∉ l.filterMap (·.dst) := fun h' => by
        obtain ⟨o', ho', hd⟩ := List.mem_filterMap.1 h'
        exact ht (List.mem_filterMap.2 ⟨o', List.mem_cons_of_mem _ ho', hd⟩)
      have hne : o.dst ≠ some t := fun hd => ht (List.mem_filterMap.2 ⟨o, List.mem_cons_self, hd⟩)
      have := hf t ht'
      rwa [app_env, if_neg hne] at this
    revert h
    simp only [vcSeq]
    split
    · exact id
    · split
      · rename_i T hT
        rw [Bool.cond_eq_ite, Bool.cond_eq_ite]
        split
        · exact fun h => relEff_mono ‹relEff cx s o = some _› (fun e he => vcSeq_frame he fun s' h1 h2 => hq s' h1 (fr h2)) h
        · exact id
      · split
        · exact id
        · rw [Bool.cond_eq_ite, Bool.cond_eq_ite]
          split
          · exact fun h => ⟨h.1, vcSeq_frame h.2 fun s' h1 h2 => hq s' h1 (fr h2)⟩
          · exact id

theorem vcSeq_mono {G G' : ASt → Prop} {l : List Oper} {s : ASt} (h : vcSeq cx ops l s G) (hq : ∀ s', G s' → G' s') : vcSeq cx ops l s G' := vcSeq_frame h fun s' h1 _ => hq s' h1
theorem vc_mono : ∀ (c : Code) (s : ASt) (Q Q' : Exit → ASt → Prop), vc cx c s Q → (∀ e s', Q e s' → Q' e s') → vc cx c s Q' := by
  intro c
  induction c with
  | skip => intro s Q Q' h hq; exact hq _ _ h
  | region id ops d =>
    intro s Q Q' h hq
    simp only [vc] at h ⊢
    cases hm : (!d && mayRel cx ops) with
    | true =>
      rw [hm] at h
      cases hg : guardsOk ops with
      | false => rw [hg] at h; exact h.elim
      | true =>
        rw [hg] at h
        exact vcSeq_mono h fun s' h1 => hq _ _ h1
    | false =>
      rw [hm] at h
      simp only [cond_false, vcRegion] at h ⊢
      split at h
      · exact h.elim
      · rename_i R hR
        cases hc : (guardsOk ops && (!d || drawOk ops R.feet)) with
        | false => rw [hc] at h; exact h.elim
        | true =>
          rw [hc] at h
          exact conj_mono (fun hk => hq _ _ hk) h
  | seq x y ihx ihy =>
    intro s Q Q' h hq
    refine ihx s _ _ h ?_
    intro e s' he
    cases e with
    | normal => exact ihy s' _ _ he hq
    | _ => exact hq _ _ he
  | cond c x y ihx ihy =>
    intro s Q Q' h hq
    simp only [vc] at h ⊢
    split at h
    · exact ⟨fun ht => ihx s _ _ (h.1 ht) hq, fun ht => ihy s _ _ (h.2 ht) hq⟩
    · exact h.elim
  | block id x ih =>
    intro s Q Q' h hq
    refine ih s _ _ h ?_
    intro e s' he
    cases e with
    | exit i =>
      simp only at he ⊢
      cases hi : Nat.beq i id with
      | true => rw [hi] at he; exact hq _ _ he
      | false => rw [hi] at he; exact hq _ _ he
    | _ => exact hq _ _ he
  | loop x ih =>
    intro s Q Q' h hq
    simp only [vc] at h ⊢
    split at h
    · exact h.elim
    · rename_i a ha
      split at h
      · exact h.elim
      · rename_i hs hhs
        split at h
        · exact h.elim
        · rename_i x₀ hx
          cases hc : (annOk cx.yl a (Code.dsts x) && (entryOk s a && keepOk s a)) with
          | false => rw [hc] at h; exact h.elim
          | true =>
            rw [hc] at h
            obtain ⟨I, m, h0, h1⟩ := h
            refine ⟨I, m, h0, fun y hy => ih _ _ _ (h1 y hy) ?_⟩
            intro e s' he
            cases e with
            | normal => exact he
            | _ => exact hq _ _ he
  | exit id => intro s Q Q' h hq; exact hq _ _ h
  | scope x ih =>
    intro s Q Q' h hq
    refine ih s _ _ h ?_
    intro e s' he
    cases e with
    | goto l => exact he
    | _ => exact hq _ _ he
  | label l => intro s Q Q' h hq; exact hq _ _ h
  | ret => intro s Q Q' h hq; exact hq _ _ h
  | rangeFunc g ps x y ihx ihy =>
    intro s Q Q' h hq
    revert h
    simp only [vc]
    split
    · split
      · split
        · exact id
        · rw [Bool.cond_eq_ite, Bool.cond_eq_ite]
          split
          · rintro ⟨hp, I, i0, i1, i2⟩
            refine ⟨hp, I, i0, fun e r z hz => ?_, fun z hz => hq _ _ (i2 z hz)⟩
            refine ihx _ _ _ (i1 e r z hz) ?_
            intro ex s₁ hs₁
            cases ex with
            | normal =>
              refine ihy _ _ _ hs₁ ?_
              intro ex s'
              split
              · rw [Bool.cond_eq_ite, Bool.cond_eq_ite]
                split
                · refine conj_mono ?_
                  intro hh
                  cases ex with
                  | normal => exact hh
                  | ret => exact hq _ _ hh
                  | exit i => exact hq _ _ hh
                  | _ => exact hh
                · exact id
              · exact id
            | _ => exact hs₁
          · exact id
      · exact id
    · exact id
  | _ => intro s Q Q' h hq; exact h.elim
theorem range_fr {nt : Nat} {s : ASt} {a : LoopAnn} {ds : List Nat} (h : annOk none a ds = true) (hsl : a.slots = []) {hs : List Shp} (z : Shps hs) : Fr ds s (spread (headBase nt s a ds) [] a.objs hs z) := by
  have h0 := head_fr (yl := none) (nt := nt) (s := s) (ds := ds) h (x := z)
  rw [hsl] at h0
  exact h0
theorem vc_frame : ∀ (c : Code) (s : ASt) (Q Q' : Exit → ASt → Prop), vc cx c s Q → (∀ e s', Q e s' → Fr (Code.dsts c) s s' → Q' e s') → vc cx c s Q' := by
  intro c
  induction c with
  | skip => intro s Q Q' h hq; exact hq _ _ h (.refl _ _)
  | region id ops d =>
    intro s Q Q' h hq
    simp only [vc] at h ⊢
    cases hm : (!d && mayRel cx ops) with
    | true =>
      rw [hm] at h
      cases hg : guardsOk ops with
      | false => rw [hg] at h; exact h.elim
      | true =>
        rw [hg] at h
        exact vcSeq_frame h fun s' h1 h2 => hq _ _ h1 h2
    | false =>
      rw [hm] at h
      simp only [cond_false, vcRegion] at h ⊢
      split at h
      · exact h.elim
      · rename_i R hR
        cases hc : (guardsOk ops && (!d || drawOk ops R.feet)) with
        | false => rw [hc] at h; exact h.elim
        | true =>
          rw [hc] at h
          exact conj_mono (fun hk => hq _ _ hk (bare_fr (runOps_env hR))) h
  | seq x y ihx ihy =>
    intro s Q Q' h hq
    refine ihx s _ _ h ?_
    intro e s' he hf
    cases e with
    | normal => exact ihy s' _ _ he fun e' s'' h1 h2 => hq e' s'' h1 (hf.trans h2)
    | _ => exact hq _ _ he (hf.mono fun t ht => List.mem_append.2 (.inl ht))
  | cond c x y ihx ihy =>
    intro s Q Q' h hq
    simp only [vc] at h ⊢
    split at h
    · rename_i b hb
      exact ⟨fun ht => ihx s _ _ (h.1 ht) fun e s' h1 h2 => hq e s' h1 (h2.mono fun t ht => List.mem_append.2 (.inl ht)), fun ht => ihy s _ _ (h.2 ht) fun e s' h1 h2 => hq e s' h1 (h2.mono fun t ht => List.mem_append.2 (.inr ht))⟩
    · exact h.elim
  | block id x ih =>
    intro s Q Q' h hq
    refine ih s _ _ h ?_
    intro e s' he hf
    cases e with
    | exit i =>
      simp only at he ⊢
      cases hi : Nat.beq i id with
      | true => rw [hi] at he; exact hq _ _ he hf
      | false => rw [hi] at he; exact hq _ _ he hf
    | _ => exact hq _ _ he hf
  | loop x ih =>
    intro s Q Q' h hq
    simp only [vc] at h ⊢
    split at h
    · exact h.elim
    · rename_i a ha
      split at h
      · exact h.elim
      · rename_i hs hhs
        split at h
        · exact h.elim
        · rename_i x₀ hx
          cases hc : (annOk cx.yl a (Code.dsts x) && (entryOk s a && keepOk s a)) with
          | false => rw [hc] at h; exact h.elim
          | true =>
            rw [hc] at h
            simp only [Bool.and_eq_true] at hc
            obtain ⟨I, m, h0, h1⟩ := h
            refine ⟨I, m, h0, fun y hy => ih _ _ _ (h1 y hy) ?_⟩
            intro e s' he hf
            cases e with
            | normal => exact he
            | _ => exact hq _ _ he (((head_fr hc.1 y).trans hf).mono fun t ht => by rcases List.mem_append.1 ht with ht | ht <;> exact ht)
  | exit id => intro s Q Q' h hq; exact hq _ _ h (.refl _ _)
  | scope x ih =>
    intro s Q Q' h hq
    refine ih s _ _ h ?_
    intro e s' he hf
    cases e with
    | goto l => exact he
    | _ => exact hq _ _ he hf
  | label l => intro s Q Q' h hq; exact hq _ _ h (.refl _ _)
  | rangeFunc g ps x y _ _ =>
    intro s Q Q' h hq
    revert h
    simp only [vc]
    split
    · rename_i two elt F a h1 h2 h3
      split
      · rename_i hs g1 g2
        split
        · exact id
        · rename_i x₀ hx
          rw [Bool.cond_eq_ite, Bool.cond_eq_ite]
          split
          · rename_i hc
            rintro ⟨hp, I, i0, i1, i2⟩
            simp only [Bool.and_eq_true] at hc
            refine ⟨hp, I, i0, fun e r z hz => ?_, fun z hz => hq _ _ (i2 z hz) (range_fr hc.1 ‹_› z)⟩
            refine vc_mono _ _ _ _ (i1 e r z hz) ?_
            intro ex s₁ hs₁
            cases ex with
            | normal =>
              refine vc_mono _ _ _ _ hs₁ ?_
              intro ex s'
              split
              · rw [Bool.cond_eq_ite, Bool.cond_eq_ite]
                split
                · refine conj_mono ?_
                  intro hh
                  cases ex with
                  | normal => exact hh
                  | ret => exact hq _ _ hh (range_fr hc.1 ‹_› _)
                  | exit i => exact hq _ _ hh (range_fr hc.1 ‹_› _)
                  | _ => exact hh
                · exact id
              · exact id
            | _ => exact hs₁
          · exact id
      · exact id
    · exact id
  | ret => intro s Q Q' h hq; exact hq _ _ h (.refl _ _)
  | _ => intro s Q Q' h hq; exact h.elim
end
end Go.Sx
