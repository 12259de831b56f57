/-
  The symbolic layer, part 22: pieces of code.
-/
import Derived.Test.YtlkegffejcndbaaSxL2
import Derived.Scope
set_option linter.all false
namespace Go.Sx
section
variable {F : Fence} {n : Nat} {P : Program} {Q : Exit → Act → World → Prop} {a : Act} {w : World} {b : Frame} {k : List Item} {cs : List Frame}

theorem stepR_scope {c : Code} : step P (lone (b.atR a (.code (.scope c) :: k)) cs w) = .next (lone (b.atR a (.code c :: .inScope c :: k)) cs w) :=
  step_lone_go (by simp [stepG, stepG.exec, Frame.atR])
theorem stepR_inScope {c : Code} : step P (lone (b.atR a (.inScope c :: k)) cs w) = .next (lone (b.atR a k) cs w) :=
  step_lone_go (by simp [stepG, stepG.exec, Frame.atR])

theorem wpIn_scope {c : Code} (h : c.wpIn F n P (Exit.noGoto Q) a w) : (Code.scope c).wpIn F n P Q a w := by
  intro b k cs hro hb hr
  have h0 : (lone (b.atR a (.code (.scope c) :: k)) cs w).fenced P F := fenced_calm hb hr rfl
  obtain ⟨e, a₁, w₁, hq, harr⟩ := h b (.inScope c :: k) cs hro hb hr
  cases e with
  | normal => exact ⟨.normal, a₁, w₁, hq, .head h0 stepR_scope (StepsIn.trans harr (.one (fenced_calm hb hr rfl) stepR_inScope))⟩
  | exit id =>
    have hx : exitTo id (.inScope c :: k) = exitTo id k := by simp [exitTo]
    exact ⟨.exit id, a₁, w₁, hq, fun k' hk => .head h0 stepR_scope (harr.1 k' (by rw [hx]; exact hk)),
      fun hr' hk => let ⟨k₁, h1, h2⟩ := harr.2 hr' (by rw [hx]; exact hk); ⟨k₁, h1, .head h0 stepR_scope h2⟩⟩
  | goto l => exact hq.elim
  | ret => exact ⟨_, a₁, w₁, hq, .of_steps (.one h0 stepR_scope) harr⟩
  | panic ch => exact ⟨_, a₁, w₁, hq, .of_steps (.one h0 stepR_scope) harr⟩
  | outgrown => exact ⟨_, a₁, w₁, hq, .of_steps (.one h0 stepR_scope) harr⟩
end

section
variable {K : Ctx} {s : ASt} {a : Act} {w : World} {β : Nat → Loc} {cx : Cx} {r : Option Nat} {n : Nat} {Q : Exit → Act → World → Prop} {ops : Array Oper}

theorem region_sound (hcx : CxOk K.P cx) (hnt : cx.nt = K.nt) (hfx : FixO K ops) (hm : K.P.follows .mixedOrders = true) {id : Nat} {draw : Bool} {G : ASt → Prop} (hv : vcRegion cx ops draw s G) (h : RelB K s a w β) (hn : NoG s)
    (hQ : ∀ s' a' w' β', RelB K s' a' w' β' → NoG s' → G s' → Q .normal a' w') : (Code.region id ops draw).wpIn (FF r) n K.P Q a w := by
  cases draw with
  | false => exact region_seq hcx hnt hfx hv h hn hQ
  | true =>
    unfold vcRegion at hv
    split at hv
    · exact hv.elim
    · rename_i R hR
      cases hc : (guardsOk ops && (!true || drawOk ops R.feet)) with
      | false => rw [hc] at hv; exact hv.elim
      | true =>
        rw [hc] at hv
        simp only [Bool.not_true, Bool.false_or, Bool.and_eq_true] at hc
        obtain ⟨h1, h2⟩ := conj_all hv
        obtain ⟨ds, d1, d2, d3⟩ := ran_of hR h1
        have hlen : ds.length = ops.size := by rw [← List.length_map (f := (·.o)), d1, Array.length_toList]
        obtain ⟨g1, _⟩ := h.grow (w' := { w with drawn := w.drawn + 1 }) ⟨Nat.le_refl _, fun _ _ _ => rfl, rfl, rfl⟩
        have hnone : ∀ j, (Array.replicate ops.size false).getD j false = false := by
          intro j
          rw [Array.getD_eq_getD_getElem?, Array.getElem?_replicate]
          split <;> rfl
        have e0 : st (fun j => (Array.replicate ops.size false).getD j false) 0 ds s = s := st_none fun j _ => hnone _
        refine wpIn_region_any hm (any_sound hcx hnt hfx hc.1 d1 d2 (drawF_of hc.2) (fun a' w' β' hh => hQ _ a' w' β' hh.bare (NoG.bare _) (by rw [d3] at h2; exact h2)) ops.size _ a _ β (by simp) ?_ ?_ (by rw [e0]; exact g1) (by rw [e0]; exact hn.inv _))
        · exact Nat.le_trans (List.length_filter_le _ _) (by simp)
        · intro j hj
          rw [hnone] at hj; cases hj

/-- A symbolic post-condition behind a machine's. -/
def Post (K : Ctx) (cx : Cx) (M : Nat → Prop) (Q : Exit → ASt → Prop) (Qm : Exit → Act → World → Prop) : Prop :=
  ∀ M', (cx.yl = none → M' = M) → ∀ e s a w β, Q e s → RelB (K.mg M') s a w β → NoG s → Qm e a w
theorem Post.to {M M' : Nat → Prop} {Q : Exit → ASt → Prop} {Qm : Exit → Act → World → Prop} (h : Post K cx M Q Qm) (hM : cx.yl = none → M' = M) : Post K cx M' Q Qm := fun M'' hM'' => h M'' fun e => (hM'' e).trans (hM e)
/-- In a round the loop's record is pinned. -/
def RFit (K : Ctx) : Option Nat → Prop
  | none => True
  | some l => ∃ r : Loop, (l, Obj.loop r) ∈ K.pins
def FixC (K : Ctx) (c : Code) : Prop := ∀ t ∈ Code.dsts c, K.fix t = none

def Sound (K : Ctx) (cx : Cx) (r : Option Nat) (n : Nat) (c : Code) : Prop :=
  RFit K r → FixC K c → ∀ (M : Nat → Prop) (Q : Exit → ASt → Prop) (Qm : Exit → Act → World → Prop) (s : ASt) (a : Act) (w : World) (β : Nat → Loc), vc cx c s Q → RelB (K.mg M) s a w β → NoG s → Post K cx M Q Qm → c.wpIn (FF r) n K.P Qm a w
/-- What a loop's rule is to give (proved in the next part). -/
def LoopRule (cx : Cx) : Prop :=
  ∀ (K : Ctx) (r : Option Nat) (n : Nat) (c : Code), CxOk K.P cx → Fit K cx → Sound K cx r n c → Sound K cx r n (.loop c)
def RangeRule (cx : Cx) : Prop :=
  ∀ (K : Ctx) (r : Option Nat) (n : Nat) (g : Operand) (ps : Array Nat) (x y : Code), CxOk K.P cx → Fit K cx →
    (∀ (K : Ctx) (r : Option Nat) (n : Nat), CxOk K.P cx → Fit K cx → Sound K cx r n x) → (∀ (K : Ctx) (r : Option Nat) (n : Nat), CxOk K.P cx → Fit K cx → Sound K cx r n y) → Sound K cx r n (.rangeFunc g ps x y)

theorem fixO_of {id : Nat} {ops : Array Oper} {d : Bool} (h : FixC K (.region id ops d)) : FixO K ops := fun i o x hi hx => h x (List.mem_filterMap.2 ⟨o, by simpa using Array.mem_of_getElem? hi, hx⟩)

theorem vc_sound (hloop : LoopRule cx) (hrange : RangeRule cx) : ∀ (c : Code) (K : Ctx) (r : Option Nat) (n : Nat), CxOk K.P cx → Fit K cx → Sound K cx r n c := by
  intro c
  induction c with
  | skip => intro K r n hcx hf hr hx M Q Qm s a w β hv h hn hp; exact wpIn_skip (hp M (fun _ => rfl) _ _ _ _ _ hv h hn)
  | region id ops d =>
    intro K r n hcx hf hr hx M Q Qm s a w β hv h hn hp
    simp only [vc] at hv
    cases hc : (!d && mayRel cx ops) with
    | false =>
      rw [hc] at hv
      exact region_sound (K := K.mg M) hcx hf.nt (fixO_of hx) hf.mixed hv h hn fun s' a' w' β' h1 h2 h3 => hp M (fun _ => rfl) _ _ _ _ _ h3 h1 h2
    | true =>
      rw [hc] at hv
      simp only [Bool.and_eq_true, Bool.not_eq_true'] at hc
      obtain ⟨hd, _⟩ := hc
      subst hd
      cases hg : guardsOk ops with
      | false => rw [hg] at hv; exact hv.elim
      | true =>
        rw [hg] at hv
        exact wpIn_region_list (vcSeq_sound (K := K.mg M) hg (k := 0) hcx (hf.mg M) (fixO_of hx) (fun j => by simp) hv h (hn.inv _) fun M' s' a' w' β' hM h1 h2 h3 => hp M' hM _ _ _ _ _ h3 h1 h2)
  | seq x y ihx ihy =>
    intro K r n hcx hf hr hx M Q Qm s a w β hv h hn hp
    refine wpIn_seq (ihx K r n hcx hf hr (fun t ht => hx t (List.mem_append.2 (.inl ht))) M _ _ s a w β hv h hn ?_)
    intro M' hM e s' a' w' β' hq h' hn'
    cases e with
    | normal => exact ihy K r n hcx hf hr (fun t ht => hx t (List.mem_append.2 (.inr ht))) M' Q Qm s' a' w' β' hq h' hn' (hp.to hM)
    | _ => exact hp M' hM _ _ _ _ _ hq h' hn'
  | cond c x y ihx ihy =>
    intro K r n hcx hf hr hx M Q Qm s a w β hv h hn hp
    simp only [vc] at hv
    split at hv
    · rename_i b hb
      have hc := ev_rep (cx := cx) h (g := []) (fun x hx => by cases hx) 0 c
      rw [asB_eq hb] at hc
      refine wpIn_cond_split (bool_val hc) (fun ht => ihx K r n hcx hf hr (fun t ht => hx t (List.mem_append.2 (.inl ht))) M Q Qm s a w β (hv.1 ht) h hn hp) (fun ht => ihy K r n hcx hf hr (fun t ht => hx t (List.mem_append.2 (.inr ht))) M Q Qm s a w β (hv.2 ht) h hn hp)
    · exact hv.elim
  | block id x ih =>
    intro K r n hcx hf hr hx M Q Qm s a w β hv h hn hp
    refine wpIn_block (ih K r n hcx hf hr hx M _ _ s a w β hv h hn ?_)
    intro M' hM e s' a' w' β' hq h' hn'
    cases e with
    | exit i =>
      simp only [Exit.inBlock]
      cases hi : Nat.beq i id with
      | true =>
        simp only [hi, cond_true] at hq
        rw [if_pos (Nat.eq_of_beq_eq_true hi)]
        exact hp M' hM _ _ _ _ _ hq h' hn'
      | false =>
        simp only [hi, cond_false] at hq
        rw [if_neg (fun e => by subst e; rw [Nat.beq_refl] at hi; cases hi)]
        exact hp M' hM _ _ _ _ _ hq h' hn'
    | _ => exact hp M' hM _ _ _ _ _ hq h' hn'
  | loop x ih => intro K r n hcx hf; exact hloop K r n x hcx hf (ih K r n hcx hf)
  | exit id => intro K r n hcx hf hr hx M Q Qm s a w β hv h hn hp; exact wpIn_exit (hp M (fun _ => rfl) _ _ _ _ _ hv h hn)
  | scope x ih =>
    intro K r n hcx hf hr hx M Q Qm s a w β hv h hn hp
    refine wpIn_scope (ih K r n hcx hf hr hx M _ _ s a w β hv h hn ?_)
    intro M' hM e s' a' w' β' hq h' hn'
    cases e with
    | goto l => exact hq
    | _ => exact hp M' hM _ _ _ _ _ hq h' hn'
  | label l => intro K r n hcx hf hr hx M Q Qm s a w β hv h hn hp; exact wpIn_label (hp M (fun _ => rfl) _ _ _ _ _ hv h hn)
  | ret => intro K r n hcx hf hr hx M Q Qm s a w β hv h hn hp; exact wpIn_ret (hp M (fun _ => rfl) _ _ _ _ _ hv h hn)
  | rangeFunc g ps x y ihx ihy => intro K r n hcx hf; exact hrange K r n g ps x y hcx hf ihx ihy
  | _ => intro K r n hcx hf hr hx M Q Qm s a w β hv h hn hp; exact hv.elim
end
end Go.Sx
