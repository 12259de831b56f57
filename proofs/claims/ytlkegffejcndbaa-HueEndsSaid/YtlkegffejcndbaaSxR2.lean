/-
  The symbolic layer, part 27b: the rule for ranges over functions.
-/
import Derived.Test.YtlkegffejcndbaaSxR
set_option linter.all false
namespace Go.Sx
section
variable {cx : Cx}

theorem no_open {s : ASt} {g : Operand} {nt : Nat} {an : LoopAnn} {ps : Array Nat} {two : Bool} {elt : Ty} (h : roundOk nt s an g ps two elt = true) {K : Ctx} {a : Act} {w : World} {β : Nat → Loc} (hr : RelB K s a w β) (hn : NoG s) : (ev cx s [] 0 g).open? s = [] := by
  simp only [roundOk, Bool.and_eq_true] at h
  cases g with
  | tmp t =>
    have h2 := h.2
    simp only [ev]
    rw [hn t]
    simpa [subList] using h2
  | const v =>
    simp only [ev]
    unfold constAV
    split
    · rename_i k n
      cases (decide (kMin k ≤ n) && decide (n ≤ kMax k)) <;> rfl
    · rfl
    · split <;> rfl
    · rfl
  | func f => rfl
  | global _ => rfl

set_option maxHeartbeats 400000 in
theorem range_rule : RangeRule cx := by
  intro K r n g ps x y hcx hf hsx hsy hrf hfx M Q Qm s a w β hv h hn hp
  simp only [vc] at hv
  split at hv
  · rename_i two elt F an hyl hdv hann
    split at hv
    · rename_i hs hsl hshp
      split at hv
      · exact hv.elim
      · rename_i x₀ hx₀
        cases hc : (annOk none an (rangeDs ps x y) && (entryOk s an && (keepOk s an && roundOk cx.nt s an g ps two elt))) with
        | false => rw [hc] at hv; exact hv.elim
        | true =>
          rw [hc] at hv
          simp only [Bool.and_eq_true] at hc
          obtain ⟨c1, c2, c3, c4⟩ := hc
          simp only [cond_true] at hv
          obtain ⟨hpre, I, i0, i1, i2⟩ := hv
          have hJt : ∀ g G M w, K.J g G M w := by have := hf.yl; rw [hyl] at this; exact this.1
          have hJn : ¬ K.nod := by have := hf.yl; rw [hyl] at this; exact this.2
          have c1' : annOk cx.yl an (rangeDs ps x y) = true := by rw [hyl]; exact c1
          have hm : Match an.slots an.objs hs := by rw [hsl]; exact objs_match hshp
          obtain ⟨hd, hhd⟩ : ∃ hd : Shps hs → ASt, hd = fun z => spread (headBase cx.nt s an (rangeDs ps x y)) [] an.objs hs z := ⟨_, rfl⟩
          have ehd : ∀ z, spread (headBase cx.nt s an (rangeDs ps x y)) [] an.objs hs z = hd z := fun z => by rw [hhd]
          have ehd' : ∀ z, spread (headBase cx.nt s an (rangeDs ps x y)) an.slots an.objs hs z = hd z := fun z => by rw [hhd, hsl]
          simp only [ehd] at i1 i2
          have hnog : ∀ z, NoG (hd z) := fun z => by rw [hhd]; exact noG_spread (noG_base hn)
          have hdun : ∀ z t, t ∈ rangeDs ps x y → (hd z).env t = ⟨[], .un⟩ := by
            intro z t ht
            rw [hhd]
            simp only
            rw [spread_fr (ds := []) (fun y hy => by cases hy) t (by simp)]
            simp only [headBase, memN_iff.2 ht, Bool.true_or, cond_true]
          obtain ⟨β₀, hr0, ht0⟩ := loop_head (K := K.mg M) (nt := cx.nt) (ds := rangeDs ps x y) hcx (hf.mg M) h hn hn c1' c2 c3 hm (by rw [hsl]; exact hx₀) h.posne (fun _ _ _ h => h) (fun _ _ _ _ _ => rfl)
          rw [ehd'] at hr0 ht0
          change Tr (Mset M s β) w (Mset M (hd x₀) β₀) w at ht0
          -- the iterator
          have hgv := ev_rep (cx := cx) h (g := []) (fun x hx => by cases hx) 0 g
          have hno := no_open (cx := cx) c4 h hn
          have hseq : VRep K.P (.sq two elt) w (Mset M s β) (a.eval g) F := AV.dv_rep (K := K.mg M) hcx h hgv hdv ⟨fun b hb => hb, fun o ho => by rw [hno] at ho; cases ho⟩
          obtain ⟨cs, hsq, egv⟩ := hseq
          have hsq := hsq.tr ht0
          obtain ⟨v, rfl, _, hit⟩ := hsq
          have egv : a.eval g = v := egv
          simp only [roundOk, Bool.and_eq_true] at c4
          have hps : psOk K.nt two elt ps.toList = true := by rw [← hf.nt]; exact c4.1
          refine wpIn_rangeFunc fun fn _ => ?_
          obtain ⟨l, mark, w1, rc, hent, hext, hlw, hrc, hlsz, hmnd, hmark⟩ := enter_facts h hrf fn ps x y
          have hl1 : l < w1.heap.size := (Array.getElem?_eq_some_iff.1 hlw).1
          -- the blocks for deferred calls
          obtain ⟨Dl, hD1, hD2⟩ : ∃ Dl : List Nat, (∀ d ∈ mark ++ a.defers, ∃ D ∈ Dl, d = { target := .collected D, args := #[] }) ∧ ∀ D ∈ Dl, w1.heap[D]? = some (.deferred (some [])) ∧ (¬ M D ∧ K.w0.heap.size ≤ D) := by
            refine ⟨(mark ++ a.defers).map fun d => match d.target with | .collected D => D | _ => 0, ?_, ?_⟩
            · intro d hdm
              have : ∃ D, d = { target := .collected D, args := #[] } := by
                rcases List.mem_append.1 hdm with hdm | hdm
                · obtain ⟨D, e, _⟩ := hmark d hdm; exact ⟨D, e⟩
                · obtain ⟨D, e, _⟩ := h.defs d hdm; exact ⟨D, e⟩
              obtain ⟨D, rfl⟩ := this
              exact ⟨D, List.mem_map.2 ⟨_, hdm, rfl⟩, rfl⟩
            · intro D hDm
              obtain ⟨d, hdm, rfl⟩ := List.mem_map.1 hDm
              rcases List.mem_append.1 hdm with hdm | hdm
              · obtain ⟨D, rfl, e1, e2⟩ := hmark d hdm
                exact ⟨e1, fun hM => by have := h.mg D hM; omega, Nat.le_trans h.frame.1 e2⟩
              · obtain ⟨D, rfl, e1, e2⟩ := h.defs d hdm
                exact ⟨(hext.2 D (Array.getElem?_eq_some_iff.1 e1).1 id).trans e1, e2⟩
          obtain ⟨pins, hpinsE⟩ : ∃ pins : Loop → List (Nat × Obj), pins = fun rc => (l, .loop rc) :: (Dl.map (fun D => (D, .deferred (some []))) ++ K.pins) := ⟨_, rfl⟩
          have hpl : ∀ q : Nat × Obj, q ∈ Dl.map (fun D => (D, .deferred (some []))) ++ K.pins → q.1 ≠ l := by
            intro q hq e
            rcases List.mem_append.1 hq with hq | hq
            · obtain ⟨D, hDm, rfl⟩ := List.mem_map.1 hq
              have e : D = l := e
              rw [e] at hDm
              have := (hD2 l hDm).1
              rw [hlw] at this; cases this
            · have := (Array.getElem?_eq_some_iff.1 (h.pins q hq).1).1
              omega
          obtain ⟨fix, hfixE⟩ : ∃ fix : Nat → Option Value, fix = fun t => cond (memN t (rangeDs ps x y)) none (some (a.tmps.getD t undef)) := ⟨_, rfl⟩
          have hfix0 : ∀ t v, fix t = some v → a.tmps.getD t undef = v := by
            intro t v hv
            rw [hfixE] at hv
            simp only at hv
            cases hb : memN t (rangeDs ps x y) with
            | true => rw [hb] at hv; cases hv
            | false => rw [hb] at hv; exact Option.some.inj hv
          have hfixn : ∀ t ∈ rangeDs ps x y, fix t = none := by
            intro t ht
            rw [hfixE]
            simp only [memN_iff.2 ht, cond_true]
          have hdnd : ((mark ++ a.defers).map dof).Nodup := by
            rw [List.map_append, List.nodup_append]
            refine ⟨hmnd, h.dnd, ?_⟩
            intro p hp q hq e
            obtain ⟨d, hd, rfl⟩ := List.mem_map.1 hp
            obtain ⟨d', hd', rfl⟩ := List.mem_map.1 hq
            obtain ⟨D, rfl, _, k1⟩ := hmark d hd
            obtain ⟨D', rfl, k2, _⟩ := h.defs d' hd'
            have := (Array.getElem?_eq_some_iff.1 k2).1
            have e : D = D' := e
            omega
          let a₀ : Act := { tmps := a.tmps, defers := [] }
          let Core : Loop → Shps hs → (Nat → Loc) → (Nat → Prop) → (Nat → Prop) → World → Prop := fun rc z β G Mo w' =>
            RelB (KR K (fun b => (M b ∨ G b) ∨ b = l) K.w0 K.Ml K.Mf K.mlf (pins rc) fix) (hd z) a₀ w' β ∧ Mo = (fun b => Mset M (hd z) β b ∨ b = l)
          have coreLt : ∀ {rc z β G Mo w'}, Core rc z β G Mo w' → ∀ b, Mo b → b < w'.heap.size := by
            rintro rc z β G Mo w' ⟨hrel, rfl⟩ b (hb | rfl)
            · rcases hb with hb | ⟨o, ob, h1, h2, h3⟩
              · exact hrel.mg b (.inl (.inl hb))
              · exact hrel.blk_lt h1 h3
            · exact hrel.mg b (.inr rfl)
          have pinLt : ∀ {rc}, ∀ q ∈ pins rc, q.1 < w1.heap.size := by
            intro rc q hq
            rw [hpinsE] at hq
            rcases List.mem_cons.1 hq with rfl | hq
            · exact hl1
            · rcases List.mem_append.1 hq with hq | hq
              · obtain ⟨D, hDm, rfl⟩ := List.mem_map.1 hq
                exact (Array.getElem?_eq_some_iff.1 (hD2 D hDm).1).1
              · exact Nat.lt_of_lt_of_le (Array.getElem?_eq_some_iff.1 (h.pins q hq).1).1 hext.1
          have coreStab : ∀ {rc z β G Mo w' G' w₂}, Core rc z β G Mo w' → Trx G w' G' w₂ → (∀ b, G b → ¬ Mo b ∧ w1.heap.size ≤ b) → (∀ b, G' b → b < w₂.heap.size) → Core rc z β G' Mo w₂ := by
            rintro rc z β G Mo w' G' w₂ ⟨hrel, rfl⟩ ht hG hG'
            have hGb : ∀ o ob b, (hd z).obs o = some (some ob) → (β o).blk = some b → ¬ G b := fun o ob b ho hb hg => hrel.dis o ob b ho hb (.inl (.inr hg))
            refine ⟨hrel.re rfl rfl rfl (fun t => .inr ⟨rfl, hnog z t⟩) ?_ ?_ ?_ ?_ ?_ hrel.rng (fun d hd => by cases hd) ?_ List.nodup_nil (fun h => h.elim) trivial hfix0 rfl, rfl⟩
            · refine ⟨Nat.le_trans hrel.frame.1 ht.1.1, fun b hb hn' => (ht.1.2 b (Nat.lt_of_lt_of_le hb hrel.frame.1) fun hg => ?_).trans (hrel.frame.2 b hb hn'), ht.1.io.1.trans hrel.frame.io.1, ht.1.io.2.trans hrel.frame.io.2⟩
              have := (hG b hg).2
              have hb : b < K.w0.heap.size := hb
              have h9 : K.w0.heap.size ≤ w.heap.size := h.frame.1
              have := hext.1
              omega
            · intro b hb
              rcases hb with (hb | hb) | hb
              · exact Nat.lt_of_lt_of_le (hrel.mg b (.inl (.inl hb))) ht.1.1
              · exact hG' b hb
              · exact Nat.lt_of_lt_of_le (hrel.mg b (.inr hb)) ht.1.1
            · intro o ob b ho hb hM
              rcases hM with (hM | hM) | hM
              · exact hrel.dis o ob b ho hb (.inl (.inl hM))
              · exact hGb o ob b ho hb (ht.2 b (hrel.blk_lt ho hb) hM)
              · exact hrel.dis o ob b ho hb (.inr hM)
            · refine ⟨(ht.1.mono fun b _ hb => .inl (.inl (.inr hb))).loose, fun b hb hm => ?_⟩
              rcases hm with ((hm | hm) | hm) | hm
              · exact .inl (.inl (.inl hm))
              · exact .inl (.inl (.inr (ht.2 b hb hm)))
              · exact .inl (.inr hm)
              · exact .inr hm
            · intro o ob b ho hb
              exact ht.1.2 b (hrel.blk_lt ho hb) (hGb o ob b ho hb)
            · intro q hq
              obtain ⟨h1, h2⟩ := hrel.pins q hq
              have hlt : q.1 < w'.heap.size := (Array.getElem?_eq_some_iff.1 h1).1
              refine ⟨(ht.1.2 q.1 hlt fun hg => ?_).trans h1, h2⟩
              have := (hG _ hg).2
              have := pinLt q hq
              omega
          have core0 : Core rc x₀ β₀ (fun _ => False) (fun b => Mset M (hd x₀) β₀ b ∨ b = l) w1 := by
            have hr01 := hr0.grow hext
            refine ⟨hr0.re rfl rfl rfl (fun t => .inr ⟨rfl, hnog x₀ t⟩) hr01.1.frame ?_ ?_ ?_ (fun o ob b ho hb => hext.2 b (hr0.blk_lt ho hb) id) hr0.rng (fun d hd => by cases hd) ?_ List.nodup_nil (fun h => h.elim) trivial hfix0 rfl, rfl⟩
            · rintro b ((hb | hb) | rfl)
              · exact hr01.1.mg b hb
              · exact hb.elim
              · exact hl1
            · rintro o ob b ho hb ((hM | hM) | rfl)
              · exact hr0.dis o ob b ho hb hM
              · exact hM
              · have := hr0.blk_lt ho hb; omega
            · refine ⟨(hext.mono fun _ _ h => h.elim).loose, fun b hb hm => ?_⟩
              rcases hm with ((hm | hm) | rfl) | hm
              · exact .inl hm
              · exact hm.elim
              · omega
              · exact .inr hm
            · intro q hq
              rw [hpinsE] at hq
              rcases List.mem_cons.1 hq with rfl | hq
              · exact ⟨hlw, ⟨fun _ _ _ e => (by cases e), fun _ _ e => (by cases e)⟩⟩
              · rcases List.mem_append.1 hq with hq | hq
                · obtain ⟨D, hDm, rfl⟩ := List.mem_map.1 hq
                  exact ⟨(hD2 D hDm).1, ⟨fun _ _ _ e => (by cases e), fun _ _ e => (by cases e)⟩⟩
                · exact hr01.1.pins q hq
          let J : List elt.D → (Nat → Prop) → (Nat → Prop) → World → Prop := fun p G Mo w' => ∃ z β q, (F : Seq elt.D).val = p ++ q ∧ I q z ∧ Core rc z β G Mo w'
          let Jx : List elt.D → (Nat → Prop) → (Nat → Prop) → World → Prop := fun _ G Mo w' => ∃ z β jump, ((jump = .ret ∧ Q .ret (hd z)) ∨ ∃ i, jump = .exit i ∧ Q (.exit i) (hd z)) ∧ Core { rc with state := .done, pending := some jump } z β G Mo w'
          have htr1 : Tr (Mset M (hd x₀) β₀) w (fun b => Mset M (hd x₀) β₀ b ∨ b = l) w1 := by
            refine ⟨(hext.mono fun _ _ h => h.elim).loose, fun b hb hm => ?_⟩
            rcases hm with hm | rfl
            · exact hm
            · omega
          obtain ⟨f, caps, rfl, hentf, hiter⟩ := hit w1 _ htr1 (coreLt core0) hpre
          -- the rounds
          have hcalls := hiter l J Jx (fun p G M₁ w₁ G' w₂ ⟨z, β, q, h1, h2, h3⟩ ht hG hG' => ⟨z, β, q, h1, h2, coreStab h3 ht hG hG'⟩)
            (fun p G M₁ w₁ G' w₂ ⟨z, β, q, h1, h3⟩ ht hG hG' => ⟨z, β, q, h1, coreStab h3 ht hG hG'⟩)
            (fun p G M₁ w₁ ⟨z, β, q, h1, h2, h3⟩ => coreLt h3) (fun p G M₁ w₁ ⟨z, β, q, h1, h3⟩ => coreLt h3) ?round ⟨x₀, β₀, _, rfl, i0, core0⟩
          case round =>
            rintro p e q G Mo w' us hval ⟨z, βz, q', hval', hI, hcore⟩ hRE hG hG2
            have hq' : q' = e :: q := List.append_cancel_left (hval'.symm.trans hval)
            subst hq'
            obtain ⟨hrel, rfl⟩ := hcore
            have hb := i1 e q z hI
            have hlpin : w'.heap[l]? = some (.loop rc) := (hrel.pins (l, .loop rc) (by rw [hpinsE]; exact List.mem_cons_self)).1
            let OwnZ : Nat → Prop := Own (hd z) βz
            let MG : Nat → Prop := fun b => (M b ∨ G b) ∨ b = l
            let KB : Loop → Ctx := fun rc => KR K MG w' OwnZ (fun b => OwnZ b ∨ b = l) (fun b hb => .inl hb) (pins rc) fix
            have hfitB : ∀ rc, Fit (KB rc) cx := fun rc => KR_fit hf hyl
            have hrfB : ∀ rc, RFit (KB rc) (some l) := fun rc => ⟨rc, by show (l, Obj.loop rc) ∈ pins rc; rw [hpinsE]; exact List.mem_cons_self⟩
            have hrel1 : RelB (KB rc) (hd z) a₀ w' βz :=
              hrel.re rfl rfl rfl (fun t => .inr ⟨rfl, hnog z t⟩) (.refl _ _) hrel.mg hrel.dis (.refl _ _) (fun _ _ _ _ _ => rfl) (fun o ob b ho hf' hb' => .inr ⟨o, ob, ho, hf', hb'⟩) (fun d hd => by cases hd) hrel.pins List.nodup_nil (fun h => h.elim) trivial hfix0 rfl
            have hRE' : ∃ cs, YR two elt us cs ∧ Rep K.P elt w' (Mset MG (hd z) βz) cs e := by
              obtain ⟨cs, k1, k2⟩ := hRE
              refine ⟨cs, k1, k2.tr ⟨.refl _ _, fun b _ hm => ?_⟩⟩
              rcases hm with ((hm | hm) | hm) | hm
              · exact .inl (.inl (.inl hm))
              · exact .inr hm
              · exact .inl (.inr hm)
              · exact .inl (.inl (.inr hm))
            obtain ⟨hrel2, hn2, hsz⟩ := putPs_rel hrel1 (hnog z) (ps := ps) hps (fun p hp => hfixn p (List.mem_append.2 (.inl hp))) hRE'
            have hrun := run_yield (P := K.P) (args := us.toArray) hlpin (by rw [hrc]; exact hsz)
            refine ⟨_, _, _, _, hrun, roundIn_of_wpIn trivial ?_⟩
            have e1 : rc.tmps = a.tmps := by rw [hrc]
            have e2 : rc.params = ps := by rw [hrc]
            have e3 : rc.assign = x := by rw [hrc]
            have e4 : rc.body = y := by rw [hrc]
            rw [e1, e2, e3, e4]
            have hds1 : ∀ t ∈ Code.dsts x, t ∈ rangeDs ps x y := fun t ht => List.mem_append.2 (.inr (List.mem_append.2 (.inl ht)))
            have hds2 : ∀ t ∈ Code.dsts y, t ∈ rangeDs ps x y := fun t ht => List.mem_append.2 (.inr (List.mem_append.2 (.inr ht)))
            have hbF := vc_frame x _ _ _ hb (fun ex s₁ hs₁ hfr => And.intro hs₁ hfr)
            refine hsx (KB rc) (some l) 0 hcx (hfitB rc) (hrfB rc) (fun t ht => hfixn t (hds1 t ht)) MG _ _ _ _ _ _ hbF hrel2 hn2 ?_
            intro M' hM' ex s₁ a₁ w₁ β₁ hq hrel3 hn3
            have hM' := hM' hyl
            subst hM'
            obtain ⟨hq, hfr1⟩ := hq
            have notl : ∀ {K' : Ctx} {s' : ASt} {a' : Act} {w'' : World} {β' : Nat → Loc}, RelB K' s' a' w'' β' → ∀ {rc'}, w''.heap[l]? = some (.loop rc') → ∀ o ob b, s'.obs o = some (some ob) → (β' o).blk = some b → b ≠ l := by
              intro K' s' a' w'' β' hrel' rc' hl' o ob b ho hb' e
              subst e
              exact obj_not_loop hrel' ho hb' hl' ⟨fun _ _ _ e => (by cases e), fun _ _ e => (by cases e)⟩
            have pinMove : ∀ {w'' : World} {rcA rcB : Loop}, (∀ x ∈ pins rcA, w''.heap[x.1]? = some x.2 ∧ ((∀ c e z, x.2 ≠ .cells c e z) ∧ ∀ es c, x.2 ≠ .map es c)) → ∀ x ∈ pins rcB, (w''.putObj l (.loop rcB)).heap[x.1]? = some x.2 ∧ ((∀ c e z, x.2 ≠ .cells c e z) ∧ ∀ es c, x.2 ≠ .map es c) := by
              intro w'' rcA rcB hall q hq
              have hl0 := hall (l, .loop rcA) (by rw [hpinsE]; exact List.mem_cons_self)
              have hlt : l < w''.heap.size := (Array.getElem?_eq_some_iff.1 hl0.1).1
              rw [hpinsE] at hq
              rcases List.mem_cons.1 hq with rfl | hq
              · exact ⟨World.putObj_heap_same hlt, ⟨fun _ _ _ e => (by cases e), fun _ _ e => (by cases e)⟩⟩
              · obtain ⟨k1, k2⟩ := hall q (by rw [hpinsE]; exact List.mem_cons_of_mem _ hq)
                exact ⟨(World.putObj_heap_other (hpl q hq)).trans k1, k2⟩
            have defMove : ∀ {Mg : Nat → Prop} {ds : List Deferred} {w'' : World} {o' : Obj}, (∀ d ∈ ds, ∃ D, d = { target := .collected D, args := #[] } ∧ w''.heap[D]? = some (.deferred (some [])) ∧ (¬ Mg D ∧ w'.heap.size ≤ D)) → ∀ {rc'}, w''.heap[l]? = some (.loop rc') → ∀ d ∈ ds, ∃ D, d = { target := .collected D, args := #[] } ∧ (w''.putObj l o').heap[D]? = some (.deferred (some [])) ∧ (¬ Mg D ∧ w'.heap.size ≤ D) := by
              intro Mg ds w'' o' hds rc' hl' d hd
              obtain ⟨D, k1, k2, k3⟩ := hds d hd
              refine ⟨D, k1, (World.putObj_heap_other fun e => ?_).trans k2, k3⟩
              rw [e, hl'] at k2; cases k2
            cases ex with
            | normal =>
              have hlp1 : w₁.heap[l]? = some (.loop rc) := (hrel3.pins (l, .loop rc) (by show _ ∈ pins rc; rw [hpinsE]; exact List.mem_cons_self)).1
              refine ⟨_, run_beginRound hlp1 (by rw [hrc]), ?_⟩
              have hrel4 : RelB (KB { rc with state := .busy }) s₁ a₁ (w₁.putObj l (.loop { rc with state := .busy })) β₁ := by
                refine hrel3.re rfl rfl rfl (fun t => .inr ⟨rfl, hn3 t⟩) ?_ ?_ hrel3.dis ?_ ?_ hrel3.rng (defMove hrel3.defs hlp1) (pinMove hrel3.pins) hrel3.dnd (fun h => h.elim) trivial hrel3.fix rfl
                · exact ⟨by rw [World.putObj_size]; exact hrel3.frame.1, fun b hb' hn' => (World.putObj_heap_other (fun e => hn' (.inr e))).trans (hrel3.frame.2 b hb' hn'), hrel3.frame.io⟩
                · intro b hb'; rw [World.putObj_size]; exact hrel3.mg b hb'
                · exact ⟨((ext_putObj w₁ l _).mono fun b _ e => .inl (.inr e)).loose, fun b _ hm => hm⟩
                · intro o ob b ho hb'
                  exact World.putObj_heap_other (notl hrel3 hlp1 o ob b ho hb')
              have hbG := vc_frame y _ _ _ hq (fun ex s' hs' hfr => And.intro hs' hfr)
              refine hsy (KB { rc with state := .busy }) (some l) 0 hcx (hfitB _) (hrfB _) (fun t ht => hfixn t (hds2 t ht)) MG _ _ _ _ _ _ hbG hrel4 hn3 ?_
              intro M' hM' ex s' a' w3 β3 hq hrel5 hn5
              have hM' := hM' hyl
              subst hM'
              obtain ⟨hq, hfr2⟩ := hq
              split at hq
              · rename_i x' lps hcol hsame
                cases hcc : (entryOk s' an && keptOk cx.nt (rangeDs ps x y) (hd z) s') with
                | false => rw [hcc] at hq; exact hq.elim
                | true =>
                  rw [hcc] at hq
                  simp only [Bool.and_eq_true] at hcc
                  obtain ⟨hall, hq⟩ := conj_out hq
                  -- the head of the next round
                  have henv' : ∀ t, t ∉ rangeDs ps x y → t < cx.nt → (s.env t).v.within (an.objs ++ an.keep) = true → isUn (s.env t).v = false → s'.env t = s.env t := by
                    intro t ht1 ht2 ht3 ht4
                    have hb1 : memN t (rangeDs ps x y) = false := by
                      cases hb' : memN t (rangeDs ps x y) with
                      | false => rfl
                      | true => exact absurd (memN_iff.1 hb') ht1
                    have ez : (hd z).env t = s.env t := by
                      rw [hhd]
                      simp only
                      rw [spread_fr (ds := []) (fun y hy => by cases hy) t (by simp)]
                      simp only [headBase]
                      rw [hb1, ht3, Nat.ble_eq_true_of_le ht2]; rfl
                    have hfx : Fr (rangeDs ps x y) (putPs two elt (hd z) ps e) s' := (hfr1.trans hfr2).mono fun t ht => by
                      rcases List.mem_append.1 ht with ht | ht
                      · exact hds1 t ht
                      · exact hds2 t ht
                    rcases hfx t ht1 with e5 | e5
                    · rw [e5, putPs_fr (fun hp => ht1 (List.mem_append.2 (.inl hp))), ez]
                    · have hk := hcc.2
                      simp only [keptOk, List.all_eq_true, List.mem_range] at hk
                      have := hk t ht2
                      rw [hb1, ez, e5, ht4] at this
                      cases this
                  obtain ⟨β4, hr4, _⟩ := loop_head (K := KB { rc with state := .busy }) (nt := cx.nt) (ds := rangeDs ps x y) (s₀ := s) hcx (hfitB _) hrel5 hn5 hn c1' hcc.1 c3 hm (by rw [hsl]; exact hcol) h.posne (fun o ho ob hob => sameObs_eq hsame hall o ho ob hob) henv'
                  rw [ehd'] at hr4
                  have hlp3 : w3.heap[l]? = some (.loop { rc with state := .busy }) := (hr4.pins (l, .loop { rc with state := .busy }) (by show _ ∈ pins _; rw [hpinsE]; exact List.mem_cons_self)).1
                  have hl3 : l < w3.heap.size := (Array.getElem?_eq_some_iff.1 hlp3).1
                  -- back in the loop's own world
                  have back : ∀ rc', Core rc' x' β4 G (fun b => Mset M (hd x') β4 b ∨ b = l) (w3.putObj l (.loop rc')) ∧ Trx (fun b => Mset M (hd z) βz b ∨ b = l) w' (fun b => Mset M (hd x') β4 b ∨ b = l) (w3.putObj l (.loop rc')) := by
                    intro rc'
                    have hfrm : ∀ b, b < w'.heap.size → ¬ OwnZ b → b ≠ l → (w3.putObj l (.loop rc')).heap[b]? = w'.heap[b]? := fun b hb' h1 h2 => (World.putObj_heap_other h2).trans (hr4.frame.2 b hb' fun hm => hm.elim h1 h2)
                    refine ⟨⟨hr4.re rfl rfl ?_ ?_ ?_ ?_ hr4.dis ?_ ?_ ?_ (fun d hd => by cases hd) (pinMove hr4.pins) List.nodup_nil (fun h => h.elim) trivial hfix0 rfl, rfl⟩, ⟨⟨?_, ?_, hr4.frame.io⟩, ?_⟩⟩
                    · rw [hr4.size]; exact hr0.size
                    · intro t
                      by_cases ht : t ∈ rangeDs ps x y
                      · exact .inl (hdun x' t ht)
                      · refine .inr ⟨?_, hnog x' t⟩
                        refine (hr4.fix t (a.tmps.getD t undef) ?_).symm
                        show fix t = _
                        rw [hfixE]
                        have hb1 : memN t (rangeDs ps x y) = false := by
                          cases hb' : memN t (rangeDs ps x y) with
                          | false => rfl
                          | true => exact absurd (memN_iff.1 hb') ht
                        simp only [hb1, cond_false]
                    · refine ⟨by rw [World.putObj_size]; exact Nat.le_trans hrel.frame.1 hr4.frame.1, fun b hb' hn' => ?_, hr4.frame.io.1.trans hrel.frame.io.1, hr4.frame.io.2.trans hrel.frame.io.2⟩
                      refine (hfrm b (Nat.lt_of_lt_of_le hb' hrel.frame.1) ?_ ?_).trans (hrel.frame.2 b hb' hn')
                      · rintro ⟨o, ob, k1, k2, k3⟩
                        rcases hrel.rng o ob b k1 k2 k3 with k4 | k4
                        · have hb' : b < K.w0.heap.size := hb'
                          have k4 : K.w0.heap.size ≤ b := k4
                          omega
                        · exact hn' (K.mlf b k4)
                      · have hb' : b < K.w0.heap.size := hb'
                        have h9 : K.w0.heap.size ≤ w.heap.size := h.frame.1
                        omega
                    · intro b hb'; rw [World.putObj_size]; exact hr4.mg b hb'
                    · exact ⟨((ext_putObj w3 l _).mono fun b _ e => .inl (.inr e)).loose, fun b _ hm => hm⟩
                    · intro o ob b ho hb'
                      exact World.putObj_heap_other (notl hr4 hlp3 o ob b ho hb')
                    · intro o ob b ho hf' hb'
                      rcases hr4.rng o ob b ho hf' hb' with k4 | ⟨o2, ob2, k1, k2, k3⟩
                      · exact .inl (Nat.le_trans hrel.frame.1 k4)
                      · exact hrel.rng o2 ob2 b k1 k2 k3
                    · rw [World.putObj_size]; exact hr4.frame.1
                    · intro b hb' hn'
                      exact hfrm b hb' (fun ho => hn' (.inl (.inr ho))) (fun e => hn' (.inr e))
                    · intro b hb' hm
                      rcases hm with (hm | ⟨o, ob, k1, k2, k3⟩) | hm
                      · exact .inl (.inl hm)
                      · rcases hr4.rng o ob b k1 k2 k3 with k4 | k4
                        · have k4 : w'.heap.size ≤ b := k4
                          omega
                        · exact .inl (.inr k4)
                      · exact .inr hm
                  have hend := fun jump => run_endRound (P := K.P) jump hlp3
                  cases ex with
                  | normal =>
                    obtain ⟨k1, k2⟩ := back rc
                    have er : ({ rc with state := LoopState.ready, pending := none } : Loop) = rc := by rw [hrc]
                    have hend0 : (Instr.endRound l none).run K.P w3 = .ok (.bool true) (w3.putObj l (.loop rc)) := by
                      have := hend none
                      simp only [Option.isNone_none, if_true] at this
                      rw [er] at this; exact this
                    have hval2 : (F : Seq elt.D).val = (p ++ [e]) ++ q := by rw [hval, List.append_assoc]; rfl
                    exact ⟨_, _, hend0, .inl ⟨rfl, (fun b => Mset M (hd x') β4 b ∨ b = l), ⟨x', β4, q, hval2, hq, k1⟩, k2⟩⟩
                  | ret =>
                    obtain ⟨k1, k2⟩ := back { rc with state := .done, pending := some .ret }
                    exact ⟨_, _, hend (some .ret), .inr ⟨rfl, (fun b => Mset M (hd x') β4 b ∨ b = l), ⟨x', β4, .ret, .inl ⟨rfl, hq⟩, k1⟩, k2⟩⟩
                  | exit i =>
                    obtain ⟨k1, k2⟩ := back { rc with state := .done, pending := some (.exit i) }
                    exact ⟨_, _, hend (some (.exit i)), .inr ⟨rfl, (fun b => Mset M (hd x') β4 b ∨ b = l), ⟨x', β4, .exit i, .inr ⟨i, rfl, hq⟩, k1⟩, k2⟩⟩
                  | _ => exact hq.elim
              · exact hq.elim
            | _ => exact hq.elim
          -- behind the loop
          have hleave : ∀ {rc' z β Mo w5}, Core rc' z β (fun _ => False) Mo w5 → rc'.state ≠ .busy → (Instr.endLoop l).run K.P w5 = .ok rc'.pending (w5.putObj l (.loop { rc' with state := .exhausted })) ∧ RelB (K.mg M) (hd z) { a with defers := mark ++ a.defers } (w5.putObj l (.loop { rc' with state := .exhausted })) β := by
            rintro rc' z β Mo w5 ⟨hrel, rfl⟩ hb
            have hlp : w5.heap[l]? = some (.loop rc') := (hrel.pins (l, .loop rc') (by show _ ∈ pins rc'; rw [hpinsE]; exact List.mem_cons_self)).1
            refine ⟨run_endLoop hlp hb, hrel.re rfl rfl rfl (fun t => .inr ⟨rfl, hnog z t⟩) ?_ ?_ ?_ ?_ ?_ hrel.rng ?_ ?_ hdnd (fun h => absurd h hJn) (hJt _ _ _ _) h.fix rfl⟩
            · refine ⟨by rw [World.putObj_size]; exact hrel.frame.1, fun b hb' hn' => (World.putObj_heap_other fun e => ?_).trans (hrel.frame.2 b hb' hn'), hrel.frame.io⟩
              have hb' : b < K.w0.heap.size := hb'
              have h9 : K.w0.heap.size ≤ w.heap.size := h.frame.1
              omega
            · intro b hb'; rw [World.putObj_size]; exact hrel.mg b (.inl (.inl hb'))
            · intro o ob b ho hb' hM
              exact hrel.dis o ob b ho hb' (.inl (.inl hM))
            · refine ⟨((ext_putObj w5 l _).mono fun b _ e => .inl (.inr e)).loose, fun b _ hm => ?_⟩
              rcases hm with hm | hm
              · exact .inl (.inl (.inl hm))
              · exact .inr hm
            · intro o ob b ho hb'
              refine World.putObj_heap_other fun e => ?_
              subst e
              exact obj_not_loop hrel ho hb' hlp ⟨fun _ _ _ e => (by cases e), fun _ _ e => (by cases e)⟩
            · intro d hd
              obtain ⟨D, hDm, rfl⟩ := hD1 d hd
              refine ⟨D, rfl, ?_, (hD2 D hDm).2⟩
              have hp := hrel.pins (D, .deferred (some [])) (by show _ ∈ pins rc'; rw [hpinsE]; exact List.mem_cons_of_mem _ (List.mem_append.2 (.inl (List.mem_map.2 ⟨D, hDm, rfl⟩))))
              exact (World.putObj_heap_other (hpl _ (List.mem_append.2 (.inl (List.mem_map.2 ⟨D, hDm, rfl⟩))))).trans hp.1
            · intro q hq
              obtain ⟨k1, k2⟩ := hrel.pins q (by show _ ∈ pins rc'; rw [hpinsE]; exact List.mem_cons_of_mem _ (List.mem_append.2 (.inr hq)))
              exact ⟨(World.putObj_heap_other (hpl q (List.mem_append.2 (.inr hq)))).trans k1, k2⟩
          refine ⟨l, mark, w1, { target := .fn (.func f) caps, args := #[.func (.yield l) #[] #[]] }, w1, f, #[.func (.yield l) #[] #[]] ++ caps, w1, hent, ?_, ?_, ?_, ?_, ?_⟩
          rotate_left
          · exact fun _ _ => trivial
          rotate_left
          · intro h; exact absurd h (by simp [FF])
          · have hcin := callsIn_FF (r := r) (n := n - 1) hcalls
            refine hcin.mono ?_
            rintro r5 w5 ⟨⟨v5, rfl⟩, hJ5⟩
            rcases hJ5 with ⟨Mo, z, βz, q, hval, hI, hcore⟩ | ⟨p5, Mo, z, βz, jump, hj, hcore⟩
            · have hq0 : q = [] := by
                have := congrArg List.length hval
                rw [List.length_append] at this
                exact List.eq_nil_of_length_eq_zero (by omega)
              subst hq0
              obtain ⟨k1, k2⟩ := hleave hcore (by rw [hrc]; exact fun e => by cases e)
              have ep : rc.pending = none := by rw [hrc]
              refine ⟨none, _, k1.trans (congrArg (fun p => Result.ok p _) ep), ?_⟩
              exact hp M (fun _ => rfl) _ _ _ _ _ (i2 z hI) k2 (hnog z)
            · obtain ⟨k1, k2⟩ := hleave hcore (fun e => by cases e)
              refine ⟨_, _, k1, ?_⟩
              rcases hj with ⟨rfl, hQ⟩ | ⟨i, rfl, hQ⟩
              · exact wpIn_ret (hp M (fun _ => rfl) _ _ _ _ _ hQ k2 (hnog z))
              · exact wpIn_exit (hp M (fun _ => rfl) _ _ _ _ _ hQ k2 (hnog z))
          · simp only [resolve, rangeCall, Deferred.ofValue, egv, Sem.run_pure]
            simp [Act.eval]
          · simp only [invoke]
            exact hentf _ _
    · exact hv.elim
  · exact hv.elim
end
end Go.Sx
