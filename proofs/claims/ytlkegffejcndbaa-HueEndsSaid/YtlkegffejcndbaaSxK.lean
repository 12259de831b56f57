/-
  The symbolic layer, part 20: what an operation looks at.
-/
import Derived.Test.YtlkegffejcndbaaSxJ
set_option linter.all false
namespace Go.Sx
section
variable {s s' : ASt} {cx : Cx} {g : List (Nat × Bool)} {o : Oper}

theorem ids_ev (T : TypeId) (x : Operand) : (ev cx s g T x).ids = (ev cx s g 0 x).ids := by
  cases x with
  | tmp t => rfl
  | const v =>
    have : ∀ T, (constAV cx T v).ids = [] := by
      intro T
      unfold constAV
      split
      · rename_i k n; cases (decide (kMin k ≤ n) && decide (n ≤ kMax k)) <;> rfl
      · rfl
      · split <;> rfl
      · rfl
    simp only [ev, this]
  | func f => rfl
  | global _ => rfl

theorem ev_congr {T : TypeId} {x : Operand} (h : ∀ t, x = .tmp t → s'.env t = s.env t) : ev cx s' g T x = ev cx s g T x := by
  cases x <;> simp only [ev]
  rename_i t
  rw [h t rfl]

/-- The same objects. -/
def Same (s s' : ASt) (l : List Nat) : Prop := ∀ x ∈ l, s'.obs x = s.obs x
theorem Same.mem {l m : List Nat} (h : Same s s' l) (hm : ∀ x ∈ m, x ∈ l) : Same s s' m := fun x hx => h x (hm x hx)

theorem clo_ids (f : Nat) (c : List SV) : (AV.clo f c).ids = c.flatMap svIds := rfl
theorem sv_ids (v : SV) : (AV.s v).ids = svIds v := rfl
theorem mem_behind (o : Nat) : o ∈ behind s o := by
  unfold behind
  split <;> simp
theorem Same.behind {l : List Nat} (h : Same s s' (l.flatMap (Sx.behind s))) : Same s s' l := h.mem fun x hx => List.mem_flatMap.2 ⟨x, hx, mem_behind x⟩

theorem SV.dv_congr {v : SV} (h : Same s s' (svIds v)) : v.dv s' = v.dv s := by
  cases v with
  | ptr o p => simp only [SV.dv, h o (by simp [svIds])]
  | os o => simp only [SV.dv, h o (by simp [svIds])]
  | _ => rfl
theorem SV.open_congr {v : SV} (h : Same s s' (svIds v)) : v.open? s' = v.open? s := by
  cases v with
  | ptr o p => simp only [SV.open?, h o (by simp [svIds])]
  | os o => simp only [SV.open?, h o (by simp [svIds])]
  | _ => rfl
theorem optAll_congr {α β : Type} {f f' : α → Option β} : ∀ {l : List α}, (∀ x ∈ l, f' x = f x) → optAll f' l = optAll f l
  | [], _ => rfl
  | a :: l, h => by
    simp only [optAll, h a List.mem_cons_self, optAll_congr (l := l) fun x hx => h x (List.mem_cons_of_mem _ hx)]
theorem flatMap_congr' {α β : Type} {f f' : α → List β} : ∀ {l : List α}, (∀ x ∈ l, f' x = f x) → l.flatMap f' = l.flatMap f
  | [], _ => rfl
  | a :: l, h => by
    simp only [List.flatMap_cons, h a List.mem_cons_self, flatMap_congr' (l := l) fun x hx => h x (List.mem_cons_of_mem _ hx)]
theorem AV.dv_congr {v : AV} (h : Same s s' v.ids) : v.dv cx s' = v.dv cx s := by
  cases v with
  | un => rfl
  | yl _ => rfl
  | tup l => rfl
  | s v => exact SV.dv_congr (by rw [← sv_ids]; exact h)
  | clo f c =>
    rw [clo_ids] at h
    simp only [AV.dv, cloDv, iconDv]
    rw [optAll_congr (f := SV.dv s) (f' := SV.dv s') fun v hv => SV.dv_congr (h.mem fun x hx => List.mem_flatMap.2 ⟨v, hv, hx⟩)]
theorem AV.open_congr {v : AV} (h : Same s s' v.ids) : v.open? s' = v.open? s := by
  cases v with
  | un => rfl
  | yl _ => rfl
  | tup l => rfl
  | s v => exact SV.open_congr (by rw [← sv_ids]; exact h)
  | clo f c =>
    rw [clo_ids] at h
    simp only [AV.open?]
    exact flatMap_congr' fun v hv => SV.open_congr (h.mem fun x hx => List.mem_flatMap.2 ⟨v, hv, hx⟩)
theorem SV.open_ids {v : SV} : ∀ x ∈ v.open? s, x ∈ svIds v := by
  intro x hx
  cases v with
  | ptr o p => simp only [SV.open?] at hx; split at hx <;> simp_all [svIds]
  | os o => simp only [SV.open?] at hx; split at hx <;> simp_all [svIds]
  | d _ _ => cases hx
  | nl _ _ => cases hx
  | mp _ => cases hx
theorem AV.open_ids {v : AV} : ∀ x ∈ v.open? s, x ∈ v.ids := by
  intro x hx
  cases v with
  | un => cases hx
  | yl _ => cases hx
  | tup l => cases hx
  | s v => rw [sv_ids]; exact SV.open_ids x hx
  | clo f c =>
    rw [clo_ids]
    obtain ⟨v, hv, hx⟩ := List.mem_flatMap.1 hx
    exact List.mem_flatMap.2 ⟨v, hv, SV.open_ids x hx⟩
theorem freeze_congr : ∀ {l : List Nat}, Same s s' l → freeze s' l = freeze s l
  | [], _ => rfl
  | x :: l, h => by
    simp only [freeze, h x List.mem_cons_self, freeze_congr (l := l) (h.mem fun y hy => List.mem_cons_of_mem _ hy)]
theorem dvs_congr {l : List AV} (h : Same s s' (l.flatMap AV.ids)) : optAll (AV.dv cx s') l = optAll (AV.dv cx s) l :=
  optAll_congr fun v hv => AV.dv_congr (h.mem fun x hx => List.mem_flatMap.2 ⟨v, hv, hx⟩)
theorem opens_congr {l : List AV} (h : Same s s' (l.flatMap AV.ids)) : freeze s' (l.flatMap (AV.open? s')) = freeze s (l.flatMap (AV.open? s)) := by
  rw [flatMap_congr' (f := AV.open? s) (f' := AV.open? s') fun v hv => AV.open_congr (h.mem fun x hx => List.mem_flatMap.2 ⟨v, hv, hx⟩)]
  refine freeze_congr (h.mem fun x hx => ?_)
  obtain ⟨v, hv, hx⟩ := List.mem_flatMap.1 hx
  exact List.mem_flatMap.2 ⟨v, hv, AV.open_ids x hx⟩
theorem solid_congr {l : List AV} (h : Same s s' (l.flatMap AV.ids)) : solid cx s' l = solid cx s l := by
  unfold solid
  rw [dvs_congr h, opens_congr h]
theorem one_congr {v : AV} (h : Same s s' v.ids) : v.one s' = v.one s := by
  cases v with
  | s v => cases v <;> simp only [AV.one, live] <;> first | rfl | rw [h _ (by simp [AV.ids, svIds])]
  | _ => rfl
theorem callEff_congr {f : Nat} {l : List AV} (h : Same s s' (l.flatMap AV.ids)) : callEff cx s' f l = callEff cx s f l := by
  unfold callEff
  rw [dvs_congr h, opens_congr h]
theorem matchK_congr {f : Nat} {caps : List SV} : ∀ {args : List AK} {i : Nat} {as : List AV}, (∀ x ∈ as, Same s s' (x.ids.flatMap (behind s))) → matchK cx s' f caps args i as = matchK cx s f caps args i as
  | [], _, [], _ => rfl
  | [], _, _ :: _, _ => rfl
  | _ :: _, _, [], _ => rfl
  | k :: r, i, x :: xs, h => by
    have ih := matchK_congr (f := f) (caps := caps) (args := r) (i := i + 1) (as := xs) fun y hy => h y (List.mem_cons_of_mem _ hy)
    have hx := h x List.mem_cons_self
    simp only [matchK, ih]
    split
    · rfl
    · cases k with
      | d t => simp only [AV.dv_congr (v := x) hx.behind]
      | row e t =>
        simp only
        split
        · rfl
        · rename_i o
          rw [hx.behind o (by simp [AV.ids, svIds])]
        · rfl
      | box t =>
        simp only
        split
        · rename_i o
          rw [hx.behind o (by simp [AV.ids, svIds])]
        · rfl
      | mem =>
        simp only
        split
        · rename_i o
          rw [hx.behind o (by simp [AV.ids, svIds])]
          split
          · rename_i q ho
            rw [hx q (List.mem_flatMap.2 ⟨o, by simp [AV.ids, svIds], by unfold behind; rw [ho]; simp [AV.ids, svIds]⟩)]
          · rfl
        · rfl
      | self =>
        simp only
        split
        · rename_i o
          rw [hx.behind o (by simp [AV.ids, svIds])]
        · rfl
theorem callLEff_congr {d f : Nat} {k : LCon} {l : List AV} {caps : List SV} (h : Same s s' (d :: ((l ++ caps.map AV.s).flatMap AV.ids).flatMap (behind s))) : callLEff cx s' d f k l caps = callLEff cx s d f k l caps := by
  have hall : ∀ x ∈ l ++ caps.map AV.s, Same s s' (x.ids.flatMap (behind s)) := fun x hx => h.mem fun y hy => by
    obtain ⟨o, ho, hy⟩ := List.mem_flatMap.1 hy
    exact List.mem_cons_of_mem _ (List.mem_flatMap.2 ⟨o, List.mem_flatMap.2 ⟨x, hx, ho⟩, hy⟩)
  have hsol : ∀ {args : List AK} {i : Nat} {as : List AV} {m : Mt}, matchK cx s f caps args i as = some m → ∀ x ∈ m.sol, x ∈ as := by
    intro args
    induction args with
    | nil => intro i as m hm x hx; cases as with
      | nil => simp only [matchK, Option.some.injEq] at hm; subst hm; cases hx
      | cons _ _ => cases hm
    | cons k r ih =>
      intro i as m hm x hx
      cases as with
      | nil => cases hm
      | cons y as =>
        simp only [matchK] at hm
        split at hm
        · cases hm
        · rename_i m' hm'
          have := ih hm'
          cases k <;> simp only at hm
          case d t =>
            split at hm
            · cases hm
              rcases List.mem_cons.1 hx with rfl | hx
              · exact List.mem_cons_self
              · exact List.mem_cons_of_mem _ (this x hx)
            · cases hm
          case row e t =>
            split at hm
            · rw [Bool.cond_eq_ite] at hm; split at hm
              · cases hm; exact List.mem_cons_of_mem _ (this x hx)
              · cases hm
            · split at hm
              · rw [Bool.cond_eq_ite] at hm; split at hm
                · cases hm; exact List.mem_cons_of_mem _ (this x hx)
                · cases hm
              · cases hm
            · cases hm
          case box t =>
            split at hm
            · split at hm
              · rw [Bool.cond_eq_ite] at hm; split at hm
                · cases hm; exact List.mem_cons_of_mem _ (this x hx)
                · cases hm
              · cases hm
            · cases hm
          case mem =>
            split at hm
            · split at hm
              · split at hm
                · cases hm; exact List.mem_cons_of_mem _ (this x hx)
                · cases hm
              · cases hm
            · cases hm
          case self =>
            split at hm
            · split at hm
              · split at hm
                · cases hm; exact List.mem_cons_of_mem _ (this x hx)
                · cases hm
              · cases hm
            · cases hm
  unfold callLEff
  rw [matchK_congr hall]
  split
  · rfl
  · rename_i m hm
    have hsame : Same s s' (m.sol.flatMap AV.ids) := fun o ho => by
      obtain ⟨x, hx, ho⟩ := List.mem_flatMap.1 ho
      exact (hall x (hsol hm x hx)).behind o ho
    have e1 : m.sol.flatMap (AV.open? s') = m.sol.flatMap (AV.open? s) := flatMap_congr' fun v hv => AV.open_congr (hsame.mem fun x hx => List.mem_flatMap.2 ⟨v, hv, hx⟩)
    have e2 := opens_congr hsame
    rw [e1] at e2
    rw [e1, e2, h d List.mem_cons_self]
theorem callVal_congr {d : Nat} {f : AV} {l : List AV} (h : Same s s' (d :: (f.ids ++ l.flatMap AV.ids).flatMap (behind s))) : callVal cx s' d f l = callVal cx s d f l := by
  have h0 : Same s s' (f.ids ++ l.flatMap AV.ids) := Same.behind (h.mem fun x hx => List.mem_cons_of_mem _ hx)
  unfold callVal
  split
  · rename_i g₁ c
    have hcl : ∀ x, x ∈ (l ++ c.map AV.s).flatMap AV.ids → x ∈ (AV.clo g₁ c).ids ++ l.flatMap AV.ids := fun x hx => by
      simp only [List.flatMap_append, List.mem_append] at hx ⊢
      rcases hx with hx | hx
      · exact .inr hx
      · left
        rw [clo_ids]
        obtain ⟨v, hv, hx⟩ := List.mem_flatMap.1 hx
        obtain ⟨u, hu, rfl⟩ := List.mem_map.1 hv
        exact List.mem_flatMap.2 ⟨u, hu, by rw [← sv_ids]; exact hx⟩
    split
    · refine callLEff_congr (h.mem fun x hx => ?_)
      rcases List.mem_cons.1 hx with rfl | hx
      · exact List.mem_cons_self
      · obtain ⟨o, ho, hx⟩ := List.mem_flatMap.1 hx
        exact List.mem_cons_of_mem _ (List.mem_flatMap.2 ⟨o, hcl o ho, hx⟩)
    · exact callEff_congr (h0.mem hcl)
  · split
    · rename_i x
      rw [AV.dv_congr (v := x) (h0.mem fun y hy => by simp [hy])]
    · rfl
  · split
    · rename_i x y
      rw [AV.dv_congr (v := x) (h0.mem fun z hz => by simp [hz]), AV.dv_congr (v := y) (h0.mem fun z hz => by simp [hz])]
    · rfl
  · rfl
theorem loadEff_congr {T : TypeId} {x : AV} (h : Same s s' x.ids) : loadEff cx s' T x = loadEff cx s T x := by
  unfold loadEff
  split
  · rfl
  · rename_i o q
    rw [h o (by simp [AV.ids, svIds])]
  · rfl
theorem storeEff_congr {T : TypeId} {x v : AV} (h : Same s s' (x.ids ++ v.ids)) : storeEff cx s' T x v = storeEff cx s T x v := by
  unfold storeEff
  split
  · rename_i o q
    rw [h o (by simp [AV.ids, svIds]), one_congr (v := v) (h.mem fun y hy => by simp [hy]), solid_congr (l := [v]) (h.mem fun y hy => by simp at hy; simp [hy])]
  · rfl
theorem addrField_congr {x : AV} {k : Nat} {t : Option Ty} (h : Same s s' x.ids) : addrField s' x k t = addrField s x k t := by
  unfold addrField
  split
  · split
    · split
      · rfl
      · rename_i o p
        rw [h o (by simp [AV.ids, svIds])]
      · rfl
    · rfl
  · rfl
theorem addrIndex_congr {T : TypeId} {x : AV} {i : Int} (h : Same s s' x.ids) : addrIndex cx s' T x i = addrIndex cx s T x i := by
  unfold addrIndex
  split
  · split
    · rename_i o
      rw [h o (by simp [AV.ids, svIds])]
    · rfl
    · rfl
  · split
    · rename_i o q
      rw [h o (by simp [AV.ids, svIds])]
    · rfl
    · rfl
  · rfl
theorem sliceEff_congr {T : TypeId} {x : AV} {lo hi : Option Int} (h : Same s s' x.ids) : sliceEff cx s' T x lo hi = sliceEff cx s T x lo hi := by
  unfold sliceEff
  rw [solid_congr (l := [x]) (h.mem fun y hy => by simpa using hy)]
theorem appendEff_congr {d T : Nat} {x y : AV} (h : Same s s' (d :: (x.ids ++ y.ids))) : appendEff cx s' d T x y = appendEff cx s d T x y := by
  unfold appendEff
  rw [AV.dv_congr (v := y) (h.mem fun z hz => by simp [hz]), h d (by simp)]
  split
  · split
    · split
      · rfl
      · split
        · rfl
        · rename_i o
          rw [h o (by simp [AV.ids, svIds])]
        · rfl
    · rfl
  · rfl
theorem builtinEff_congr {d : Nat} {b : Builtin} {ts : List TypeId} {l : List AV} (h : Same s s' (d :: l.flatMap AV.ids)) : builtinEff cx s' d b ts l = builtinEff cx s d b ts l := by
  unfold builtinEff
  split
  · rename_i x
    rw [AV.dv_congr (v := x) (h.mem fun z hz => by simp [hz])]
  · rfl
  · rfl
  · rename_i x y
    split
    · rw [appendEff_congr (x := x) (y := y) (h.mem fun z hz => by simpa using hz)]
    · rfl
  · rfl

theorem mem_tmps {t : Nat} : ∀ {l : List Operand}, Operand.tmp t ∈ l → t ∈ tmpsOf l
  | x :: l, h => by
    rcases List.mem_cons.1 h with rfl | h
    · exact List.mem_cons_self
    · have := mem_tmps h
      cases x <;> simp [tmpsOf, this]

theorem argAVs_congr {E E' : TypeId → Operand → AV} : ∀ {xs : List Operand} {ts : List TypeId}, (∀ x ∈ xs, ∀ T, E' T x = E T x) → argAVs E' xs ts = argAVs E xs ts
  | [], _, _ => rfl
  | x :: r, [], h => by simp only [argAVs, h x List.mem_cons_self, argAVs_congr (xs := r) fun y hy => h y (List.mem_cons_of_mem _ hy)]
  | x :: r, t :: ts, h => by simp only [argAVs, h x List.mem_cons_self, argAVs_congr (xs := r) fun y hy => h y (List.mem_cons_of_mem _ hy)]
theorem argAVs_ids {E : TypeId → Operand → AV} (hE : ∀ T x, (E T x).ids = (E 0 x).ids) : ∀ {xs : List Operand} {ts : List TypeId}, ∀ y ∈ (argAVs E xs ts).flatMap AV.ids, y ∈ xs.flatMap fun x => (E 0 x).ids
  | [], _, y, h => by simp [argAVs] at h
  | x :: r, [], y, h => by
    simp only [argAVs, List.flatMap_cons, List.mem_append] at h ⊢
    exact h.imp id (argAVs_ids hE y)
  | x :: r, t :: ts, y, h => by
    simp only [argAVs, List.flatMap_cons, List.mem_append] at h ⊢
    rw [hE t x] at h
    exact h.imp id (argAVs_ids hE y)

/-- **What an operation does hangs on what it looks at alone.** -/
theorem eff_congr (hE : ∀ t ∈ tmpsOf o.op.operands.toList, s'.env t = s.env t) (hO : Same s s' (opIds cx s g o)) : eff cx s' g o = eff cx s g o := by
  have hev : ∀ x ∈ o.op.operands.toList, ∀ g T, ev cx s' g T x = ev cx s g T x := fun x hx g T => ev_congr fun t ht => hE t (mem_tmps (ht ▸ hx))
  have hidsB : ∀ x ∈ o.op.operands.toList, ∀ T, Same s s' ((ev cx s g T x).ids.flatMap (behind s)) := fun x hx T => by
    rw [ids_ev]
    exact hO.mem fun y hy => List.mem_append.2 (.inr (List.mem_flatMap.2 ⟨x, hx, hy⟩))
  have hids : ∀ x ∈ o.op.operands.toList, ∀ T, Same s s' (ev cx s g T x).ids := fun x hx T => (hidsB x hx T).behind
  have hdst : ∀ d, o.dst = some d → s'.obs d = s.obs d := fun d hd => hO d (by unfold opIds; rw [hd]; simp)
  have hopt : ∀ x : Option Operand, (∀ y, x = some y → y ∈ o.op.operands.toList) → optInt cx s' g x = optInt cx s g x := fun x hx => by
    cases x with
    | none => rfl
    | some y => simp only [optInt, hev y (hx y rfl)]
  have hparts : ∀ ps : Array (Nat × Operand), (∀ x ∈ ps.toList, x.2 ∈ o.op.operands.toList) → (ps.toList.map fun x => ev cx s' g 0 x.2) = ps.toList.map (fun x => ev cx s g 0 x.2) ∧ solid cx s' (ps.toList.map fun x => ev cx s g 0 x.2) = solid cx s (ps.toList.map fun x => ev cx s g 0 x.2) := fun ps hps => by
    refine ⟨List.map_congr_left fun x hx => hev _ (hps x hx) _ _, solid_congr fun y hy => ?_⟩
    obtain ⟨v, hv, hy⟩ := List.mem_flatMap.1 hy
    obtain ⟨x, hx, rfl⟩ := List.mem_map.1 hv
    exact hids _ (hps x hx) 0 y hy
  unfold eff
  cases hd : o.dst with
  | none =>
    cases hop : o.op <;> try rfl
    case makeFunc f x y => cases f <;> rfl
    case slice T x lo hi mx => cases mx <;> rfl
    case makeMap T m => cases m <;> rfl
    case mapUpdate T m x y =>
      rw [hop] at hev hids
      simp only
      rw [hev m (by simp [Op.operands]), hev x (by simp [Op.operands]), hev y (by simp [Op.operands])]
      unfold mapUpdateEff
      split
      · rename_i q hq
        have hm := hids m (by simp [Op.operands]) T
        rw [hq] at hm
        rw [hm q (by simp [AV.ids, svIds]), AV.dv_congr (v := ev cx s g (keyTy cx T) x) (hids x (by simp [Op.operands]) _), solid_congr (l := [ev cx s g (elemTy cx T) y]) fun z hz => hids y (by simp [Op.operands]) _ z (by simpa using hz)]
      · rfl
    rename_i T x y
    rw [hop] at hev hids
    simp only
    rw [hev x (by simp [Op.operands]), hev y (by simp [Op.operands])]
    exact storeEff_congr fun z hz => by
      rcases List.mem_append.1 hz with hz | hz
      · exact hids x (by simp [Op.operands]) _ z hz
      · exact hids y (by simp [Op.operands]) _ z hz
  | some d =>
    have hdd := hdst d hd
    cases hop : o.op <;> rw [hop] at hev hids hidsB hopt hparts <;> try rfl
    case makeMap T m =>
      cases m with
      | none => simp only [makeMapEff]; rw [hdd]
      | some _ => rfl
    case move x => simp only; rw [hev x (by simp [Op.operands])]
    case assign x => simp only; rw [hev x (by simp [Op.operands])]
    case pick c x y =>
      simp only
      rw [hev c (by simp [Op.operands])]
      split
      · rw [hev x (by simp [Op.operands]), hev y (by simp [Op.operands])]
      · rfl
    case alloc T => simp only; rw [hdd]
    case box T x =>
      simp only
      rw [hdd, hev x (by simp [Op.operands]), one_congr (hids x (by simp [Op.operands]) T), solid_congr (l := [ev cx s g T x]) fun y hy => hids x (by simp [Op.operands]) T y (by simpa using hy)]
    case build T ps =>
      simp only
      obtain ⟨h1, h2⟩ := hparts ps fun x hx => by simp only [Op.operands]; exact List.mem_map_of_mem hx
      rw [h1, h2]
    case buildSlice T m ps =>
      simp only
      obtain ⟨h1, h2⟩ := hparts ps fun x hx => by simp only [Op.operands]; exact List.mem_map_of_mem hx
      rw [hdd, h1, h2]
    case load T x =>
      simp only
      rw [hev x (by simp [Op.operands])]
      exact loadEff_congr (hids x (by simp [Op.operands]) 0)
    case binOp op T x y U => simp only; rw [hev x (by simp [Op.operands]), hev y (by simp [Op.operands])]
    case unOp op T x => simp only; rw [hev x (by simp [Op.operands])]
    case convert S T x => simp only; rw [hev x (by simp [Op.operands])]
    case makeFunc f x y =>
      cases f with
      | func f =>
        simp only
        split
        · have key : ∀ {p q : Option (List SV)}, p = q → (match p with | some c => ok (.clo f c) | none => none) = (match q with | some c => ok (.clo f c) | none => none) := by rintro _ _ rfl; rfl
          apply key
          apply optAll_congr
          intro z hz
          have hz' := hev z (by simp [Op.operands]; exact .inr (by simpa using hz)) g 0
          simp only [hz']
        · rfl
      | _ => rfl
    case makeSlice T x y => simp only; rw [hdd, hev x (by simp [Op.operands]), hev y (by simp [Op.operands])]
    case slice T x lo hi mx =>
      cases mx <;> simp only
      rw [hopt lo (fun y hy => by simp [Op.operands, hy]), hopt hi (fun y hy => by simp [Op.operands, hy]), hev x (by simp [Op.operands])]
      split
      · exact sliceEff_congr (hids x (by simp [Op.operands]) T)
      · rfl
    case fieldAddr T x k =>
      simp only
      rw [hev x (by simp [Op.operands])]
      exact addrField_congr (hids x (by simp [Op.operands]) 0)
    case field T x k => simp only; rw [hev x (by simp [Op.operands])]
    case indexAddr T x i =>
      simp only
      rw [hev x (by simp [Op.operands]), hev i (by simp [Op.operands])]
      split
      · exact addrIndex_congr (hids x (by simp [Op.operands]) T)
      · rfl
    case index T x i => simp only; rw [hev x (by simp [Op.operands]), hev i (by simp [Op.operands])]
    case extract x k => simp only; rw [hev x (by simp [Op.operands])]
    case call c =>
      simp only
      have hargs : argAVs (ev cx s' g) c.args.toList c.argTypes.toList = argAVs (ev cx s g) c.args.toList c.argTypes.toList :=
        argAVs_congr fun x hx T => hev x (by simp only [Op.operands, Call.operands, Array.toList_append, List.mem_append]; exact .inr hx) _ _
      have hai : ∀ y ∈ (argAVs (ev cx s g) c.args.toList c.argTypes.toList).flatMap AV.ids, s'.obs y = s.obs y := fun y hy => by
        obtain ⟨x, hx, hy⟩ := List.mem_flatMap.1 (argAVs_ids (fun T x => ids_ev T x) y hy)
        exact hids x (by simp only [Op.operands, Call.operands, Array.toList_append, List.mem_append]; exact .inr hx) 0 y hy
      rw [hargs]
      split
      · exact builtinEff_congr fun y hy => by
          rcases List.mem_cons.1 hy with rfl | hy
          · exact hdd
          · exact hai y hy
      · rename_i f hf
        have hfm : f ∈ (Op.call c).operands.toList := by simp [Op.operands, Call.operands, hf]
        rw [hev f hfm]
        exact callVal_congr fun y hy => by
          rcases List.mem_cons.1 hy with rfl | hy
          · exact hdd
          obtain ⟨o', ho', hy⟩ := List.mem_flatMap.1 hy
          rcases List.mem_append.1 ho' with ho' | ho'
          · exact hidsB f hfm 0 y (List.mem_flatMap.2 ⟨o', ho', hy⟩)
          · obtain ⟨x, hx, ho'⟩ := List.mem_flatMap.1 (argAVs_ids (fun T x => ids_ev T x) o' ho')
            exact hidsB x (by simp only [Op.operands, Call.operands, Array.toList_append, List.mem_append]; exact .inr hx) 0 y (List.mem_flatMap.2 ⟨o', ho', hy⟩)
      · rfl
end
end Go.Sx
