/-
  The symbolic layer, sixth part: contracts; what operands hold; data made solid.
-/
import Derived.Test.YtlkegffejcndbaaSx5
import Derived.TacticsIn
import Derived.Maps.Keyed
set_option linter.all false
namespace Go.Sx
variable {P : Program}

theorem kMin_eq (k : IntKind) : k.min = kMin k := by cases k <;> rfl
theorem kMax_eq (k : IntKind) : k.max = kMax k := by cases k <;> rfl

theorem callsIn_FF {r : Option Nat} {n : Nat} {f : FuncId} {args : Array Value} {w : World} {R : Ending → World → Prop} (h : Calls P f args w R) : CallsIn (FF r) n P f args w R :=
  (callsIn_wide (n := n)).2 h

def ARep (P : Program) (w : World) (M : Nat → Prop) : (ts : List Ty) → List Value → Ds ts → Prop
  | [], vs, _ => vs = []
  | [a], vs, x => ∃ v, vs = [v] ∧ VRep P a w M v x
  | a :: b :: r, vs, x => ∃ v vs', vs = v :: vs' ∧ VRep P a w M v x.1 ∧ ARep P w M (b :: r) vs' x.2
def RRep (P : Program) (w : World) (M : Nat → Prop) : (ts : List Ty) → Value → Ds ts → Prop
  | [], v, _ => v = .tuple #[]
  | [a], v, x => VRep P a w M v x
  | a :: b :: r, v, x => ∃ vs, v = .tuple vs.toArray ∧ ARep P w M (a :: b :: r) vs x

def Enters (P : Program) (f : FuncId) : Prop := ∀ args w, (callFunc f args).run P w = .ok (.enter f args) w
/-- **A contract holds of a function.** -/
def Holds (P : Program) (f : FuncId) (k : Con) : Prop :=
  ∀ w M vs x, (∀ b, M b → b < w.heap.size) → ARep P w M k.args vs x → k.pre x →
    Calls P f vs.toArray w fun e w' => ∃ v, e = .returned v ∧ Ext noM w w' ∧ RRep P w' M k.res v (k.val x)

/-- What a caller has lent lies so. -/
structure Lent (P : Program) (s : ASt) (β : Nat → Loc) (w : World) (M : Nat → Prop) : Prop where
  ob : ∀ o ob, s.obs o = some (some ob) → ObRep P s β w (Mset M s β) (β o) ob
  inj : ∀ o o' ob ob' b, s.obs o = some (some ob) → s.obs o' = some (some ob') → (β o).blk = some b → (β o').blk = some b → o = o'
  dis : ∀ o ob b, s.obs o = some (some ob) → (β o).blk = some b → ¬ M b
def bare (obs : Nat → Option (Option Ob)) : ASt := ⟨fun _ => ⟨[], .un⟩, obs⟩
def rowPut (row : Option Nat) (out : List Dv) (os : Nat → Option (Option Ob)) : Nat → Option (Option Ob) :=
  match row, out with
  | some e, ⟨.sl t, l⟩ :: _ => put os rid (some (some (.row false e t l)))
  | _, _ => os
/-- The objects behind a call that was lent some. -/
def LCon.fin (k : LCon) (f : Nat) (x : Ds (AK.ins k.args)) (out : List Dv) : Nat → Option (Option Ob) :=
  rowPut k.row out (obsOf (cFin f (k.caps x) (k.minv x) k.args 0 (out.drop k.res.length)))
def LCon.rav (k : LCon) (out : List Dv) : AV := match k.row with
  | some _ => .s (.os rid)
  | none => avOf (out.take k.res.length)
/-- **A contract that is lent objects holds of a function.** -/
def HoldsL (P : Program) (f : FuncId) (k : LCon) : Prop :=
  ∀ w M β vs x, (∀ b, M b → b < w.heap.size) → Lent P (bare (obsOf (k.obs f x))) β w M →
    All2 (SVRep P (bare (obsOf (k.obs f x))) β w (Mset M (bare (obsOf (k.obs f x))) β)) (k.svs x) vs → k.pre x →
    Calls P f vs.toArray w fun e w' => ∃ v β', e = .returned v ∧ Ext (Own (bare (obsOf (k.obs f x))) β) w w' ∧
      Lent P (bare (k.fin f x (unDs _ (k.val x)))) β' w' M ∧
      (∀ o ob, o ≠ rid → k.fin f x (unDs _ (k.val x)) o = some (some ob) → β' o = β o) ∧
      (∀ b, (β' rid).blk = some b → k.row.isSome = true → Own (bare (obsOf (k.obs f x))) β b ∨ w.heap.size ≤ b) ∧
      AVRep P (bare (k.fin f x (unDs _ (k.val x)))) β' w' (Mset M (bare (k.fin f x (unDs _ (k.val x)))) β') (k.rav (unDs _ (k.val x))) v
/-- **An iterator's contract holds of a function.** -/
def HoldsI (P : Program) (f : FuncId) (k : ICon) : Prop :=
  ∀ w M vs x, (∀ b, M b → b < w.heap.size) → ARep P w M k.args vs x → k.pre x →
    Iterates P (fun e w₁ N us => ∃ cs, YR k.two k.elt us cs ∧ Rep P k.elt w₁ N cs e) (k.seq x) f vs.toArray w M

structure CxOk (P : Program) (cx : Cx) : Prop where
  ty : ∀ T t, cx.ty T = some t → TyF P cx.ty cx.el T t
  con : ∀ f k, cx.con f = some k → Enters P f ∧ Holds P f k
  one : ∀ T, cx.one T = true → OneF P T
  lcon : ∀ f k, cx.lcon f = some k → Enters P f ∧ HoldsL P f k
  icon : ∀ f k, cx.icon f = some k → Enters P f ∧ HoldsI P f k
  mty : ∀ T k e, cx.mty T = some (k, e) → P.underlying T = some (.map k e) ∧ Maps.Keyed P k ∧ P.keyType k = true

theorem ARep.tr : ∀ {ts : List Ty} {vs : List Value} {x : Ds ts} {w w' : World} {M M' : Nat → Prop}, ARep P w M ts vs x → Tr M w M' w' → ARep P w' M' ts vs x
  | [], _, _, _, _, _, _, h, _ => h
  | [_], _, _, _, _, _, _, ⟨v, h1, h2⟩, ht => ⟨v, h1, h2.tr ht⟩
  | _ :: _ :: _, _, _, _, _, _, _, ⟨v, vs', h1, h2, h3⟩, ht => ⟨v, vs', h1, h2.tr ht, ARep.tr h3 ht⟩

theorem optAll_all2 {α β : Type} {f : α → Option β} : ∀ {l : List α} {r : List β}, optAll f l = some r → All2 (fun x y => f x = some y) l r
  | [], r, h => by simp only [optAll, Option.some.injEq] at h; subst h; trivial
  | a :: l, r, h => by
    simp only [optAll] at h
    split at h
    · rename_i x y h1 h2
      cases h
      exact ⟨h1, optAll_all2 h2⟩
    · cases h

theorem All2.comp {α β γ : Type} {R : α → β → Prop} {S : β → γ → Prop} {U : α → γ → Prop} (hU : ∀ a b c, R a b → S b c → U a c) : ∀ {l : List α} {m : List β} {r : List γ}, All2 R l m → All2 S m r → All2 U l r
  | [], [], [], _, _ => trivial
  | _ :: _, _ :: _, _ :: _, h, h' => ⟨hU _ _ _ h.1 h'.1, All2.comp hU h.2 h'.2⟩
  | [], _ :: _, _, h, _ => h.elim
  | _ :: _, [], _, h, _ => h.elim
  | _, [], _ :: _, _, h' => h'.elim
  | _, _ :: _, [], _, h' => h'.elim
theorem All2.flip {α β : Type} {R : α → β → Prop} : ∀ {l : List α} {r : List β}, All2 R l r → All2 (fun b a => R a b) r l
  | [], [], _ => trivial
  | _ :: _, _ :: _, h => ⟨h.1, All2.flip h.2⟩
  | [], _ :: _, h => h.elim
  | _ :: _, [], h => h.elim

theorem mkDs_rep {w : World} {M : Nat → Prop} : ∀ {ts : List Ty} {vs : List Value} {dvs : List Dv} {x : Ds ts}, All2 (fun (v : Value) (d : Dv) => VRep P d.t w M v d.x) vs dvs → mkDs ts dvs = some x → ARep P w M ts vs x
  | [], vs, [], x, h, _ => by cases vs with
    | nil => rfl
    | cons _ _ => exact h.elim
  | [a], vs, [d], x, h, hm => by
    cases vs with
    | nil => exact h.elim
    | cons v vs =>
      cases vs with
      | nil => exact ⟨v, rfl, castD_vrep hm h.1⟩
      | cons _ _ => exact h.2.elim
  | a :: b :: r, vs, d :: ds, x, h, hm => by
    cases vs with
    | nil => exact h.elim
    | cons v vs =>
      simp only [mkDs] at hm
      split at hm
      · rename_i y z h1 h2
        cases hm
        exact ⟨v, vs, rfl, castD_vrep h1 h.1, mkDs_rep h.2 h2⟩
      · cases hm
  | [], _, _ :: _, _, _, hm => by cases hm
  | [_], _, [], _, _, hm => by cases hm
  | [_], _, _ :: _ :: _, _, _, hm => by cases hm
  | _ :: _ :: _, _, [], _, _, hm => by cases hm

/-! ### Operands -/
section
variable {K : Ctx} {s : ASt} {a : Act} {w : World} {β : Nat → Loc} {cx : Cx} {g : List (Nat × Bool)}

theorem subList_hold {g g' : List (Nat × Bool)} (h : subList g g' = true) (hg : Hold a g') : Hold a g := by
  intro x hx
  simp only [subList, List.all_eq_true, List.any_eq_true, Bool.and_eq_true, beq_iff_eq] at h
  obtain ⟨y, hy, h1, h2⟩ := h x hx
  rw [Nat.eq_of_beq_eq_true h1, h2]
  exact hg y hy

theorem ev_rep (h : RelB K s a w β) (hg : Hold a g) (ty : TypeId) (x : Operand) : AVRep K.P s β w (Mset K.Mg s β) (ev cx s g ty x) (a.eval x) := by
  cases x with
  | tmp t =>
    simp only [ev, Act.eval]
    cases hs : subList (s.env t).g g with
    | true => exact (h.env t).1 (subList_hold hs hg)
    | false => trivial
  | const v =>
    simp only [ev, Act.eval]
    unfold constAV
    split
    · rename_i k n
      cases hd : (decide (kMin k ≤ n) && decide (n ≤ kMax k)) with
      | true =>
        simp only [Bool.and_eq_true, decide_eq_true_eq] at hd
        exact ⟨_, ⟨rfl, by rw [kMin_eq]; exact hd.1, by rw [kMax_eq]; exact hd.2⟩, rfl⟩
      | false => trivial
    · exact ⟨_, rfl, rfl⟩
    · split
      · rfl
      · trivial
    · trivial
  | func f => exact ⟨[], rfl, trivial⟩
  | global _ => trivial

theorem asInt_eq {x : AV} {k : IntKind} {n : Int} (h : asInt x = some (k, n)) : x = .s (.d (.i k) n) := by
  unfold asInt at h; split at h <;> simp_all
theorem asB_eq {x : AV} {b : Bool} (h : asB x = some b) : x = .s (.d .bo b) := by
  unfold asB at h; split at h <;> simp_all
theorem int_val {M : Nat → Prop} {k : IntKind} {n : Int} {v : Value} (h : AVRep P s β w M (.s (.d (.i k) n)) v) : v = .int k n ∧ k.min ≤ n ∧ n ≤ k.max := by
  obtain ⟨cs, ⟨rfl, h1, h2⟩, rfl⟩ := h
  exact ⟨rfl, h1, h2⟩
theorem bool_val {M : Nat → Prop} {b : Bool} {v : Value} (h : AVRep P s β w M (.s (.d .bo b)) v) : v = .bool b := by
  obtain ⟨cs, h1, rfl⟩ := h
  rw [show cs = _ from h1]; rfl
theorem mk_int {M : Nat → Prop} {k : IntKind} {n : Int} (h1 : k.min ≤ n) (h2 : n ≤ k.max) : AVRep P s β w M (.s (.d (.i k) n)) (.int k n) := ⟨_, ⟨rfl, h1, h2⟩, rfl⟩
theorem mk_bool {M : Nat → Prop} {b : Bool} : AVRep P s β w M (.s (.d .bo b)) (.bool b) := ⟨_, rfl, rfl⟩

/-! ### Data out of values -/
/-- What may be read while these blocks alone are open. -/
def Under (s : ASt) (β : Nat → Loc) (Mg : Nat → Prop) (ids : List Nat) (M' : Nat → Prop) : Prop :=
  (∀ b, M' b → Mset Mg s β b) ∧ ∀ o ∈ ids, ∀ b, (β o).blk = some b → ¬ M' b

theorem RelB.not_open (h : RelB K s a w β) {o : Nat} {ob : Ob} (ho : s.obs o = some (some ob)) (hf : obFz ob = true) {b : Nat} (hb : (β o).blk = some b) : ¬ Mset K.Mg s β b := by
  rintro (hm | ⟨o', ob', h1, h2, h3⟩)
  · exact h.dis o ob b ho hb hm
  · have := h.inj o o' ob ob' b ho h1 hb h3
    subst this
    rw [ho] at h1; cases h1
    rw [hf] at h2; cases h2

theorem SV.dv_rep (h : RelB K s a w β) {x : SV} {v : Dv} {u : Value} (hx : SVRep K.P s β w (Mset K.Mg s β) x u) (hd : x.dv s = some v) {M' : Nat → Prop} (hM : Under s β K.Mg (x.open? s) M') : VRep K.P v.t w M' u v.x := by
  have htr : Tr (Mset K.Mg s β) w M' w := ⟨.refl _ _, fun b _ hb => hM.1 b hb⟩
  cases x with
  | d t x => cases hd; exact VRep.tr (show VRep K.P t w (Mset K.Mg s β) u x from hx) htr
  | nl e t =>
    cases hd
    have : u = .slice none 0 0 := hx
    subst this
    exact ⟨_, ⟨none, 0, rfl, by simp, .inl rfl⟩, rfl⟩
  | ptr o p =>
    simp only [SV.dv] at hd
    simp only [SVRep] at hx
    split at hd
    · rename_i f t x ho
      simp only [ho] at hx
      obtain ⟨hi, b, off, hb, hp, rfl⟩ := hx
      obtain ⟨b', vs, e, hb', hh, hr⟩ := h.ob o _ ho
      rw [hb] at hb'; cases hb'
      simp only [Option.map_eq_some_iff] at hd
      obtain ⟨y, hy, rfl⟩ := hd
      obtain ⟨off', ho', hle, hr'⟩ := getP_rep hr hy hi
      simp only [obPos, ho', Option.map_some, Option.some.injEq] at hp
      subst hp
      have hst : St w M' b := by
        refine ⟨(Array.getElem?_eq_some_iff.1 hh).1, fun hm => ?_⟩
        cases f with
        | true => exact h.not_open ho rfl hb (hM.1 b hm)
        | false => exact hM.2 o (by simp [SV.open?, ho]) b hb hm
      refine ⟨_, ⟨b, off', _, rfl, hst, hr'.tr htr, vs.toArray, e, _, hh, ?_⟩, rfl⟩
      intro j z hj
      have hjl : j < y.t.n := by
        have := (List.getElem?_eq_some_iff.1 hj).1
        have hl := hr'.length
        omega
      rw [sub_getElem? hjl] at hj
      simpa using hj
    · rename_i f e t l ho
      split at hd
      · rename_i i q
        simp only [ho] at hx
        obtain ⟨⟨hi, hq⟩, b, off, hb, hp, rfl⟩ := hx
        obtain ⟨hlen, hblk, vss, hvs, hown⟩ := h.ob o _ ho
        simp only [Option.map_eq_some_iff] at hd
        obtain ⟨y, hy, rfl⟩ := hd
        obtain ⟨c, hc, hrc⟩ := hvs.get (getD_some (l := (l : List t.D)) (i := i) (d := t.z) hi)
        obtain ⟨e1, e2⟩ := flatten_sub (k := t.n) (all2u_length hvs) hc
        obtain ⟨off', ho', hle, hr'⟩ := getP_rep hrc hy hq
        simp only [obPos, ho', Option.map_some, Option.some.injEq] at hp
        subst hp
        rcases hown.2 with ⟨h1, h2⟩ | ⟨gg, cap, cur, h1, _, h3, h4, _, h5, h6⟩
        · omega
        rw [h1] at hblk
        have : gg = b := by rw [hb] at hblk; simpa [Value.ownBlock] using hblk.symm
        subst this
        have hst : St w M' gg := by
          refine ⟨(Array.getElem?_eq_some_iff.1 h3).1, fun hm => ?_⟩
          cases f with
          | true => exact h.not_open ho rfl hb (hM.1 gg hm)
          | false => exact hM.2 o (by simp [SV.open?, ho]) gg hb hm
        refine ⟨_, ⟨gg, _, _, rfl, hst, hr'.tr htr, cur, e, _, h3, ?_⟩, rfl⟩
        intro j z hj
        have hcl := hrc.length
        have hjl : j < y.t.n := by
          have := (List.getElem?_eq_some_iff.1 hj).1
          have hl := hr'.length
          omega
        rw [sub_getElem? hjl, ← e1, sub_getElem? (by omega), ← h6, List.getElem?_take_of_lt (by have := Nat.mul_le_mul_right t.n (show i + 1 ≤ (l : List t.D).length from hi); rw [Nat.add_mul] at this; omega)] at hj
        rw [Nat.add_assoc]
        simpa using hj
      · cases hd
    · cases hd
  | mp o => cases hd
  | os o =>
    simp only [SV.dv] at hd
    simp only [SVRep] at hx
    split at hd
    · rename_i f e t l ho
      simp only [ho] at hx
      obtain ⟨_, rfl⟩ := hx
      cases hd
      obtain ⟨hlen, hblk, vss, hvs, hown⟩ := h.ob o _ ho
      rcases hown.2 with ⟨h1, h2⟩ | ⟨gg, cap, cur, h1, _, h3, h4, _, h5, h6⟩
      · have : (l : List t.D) = [] := List.eq_nil_of_length_eq_zero h2
        rw [h1]
        refine ⟨_, ⟨none, 0, rfl, (Nat.le_min.2 ⟨Nat.le_of_eq h2, hlen⟩), .inl this⟩, ?_⟩
        simp only [pack, Ty.agg, cond_false, List.headD_cons, h2]
      · rw [h1] at hblk ⊢
        have hb : (β o).blk = some gg := hblk
        have hst : St w M' gg := by
          refine ⟨(Array.getElem?_eq_some_iff.1 h3).1, fun hm => ?_⟩
          cases f with
          | true => exact h.not_open ho rfl hb (hM.1 gg hm)
          | false => exact hM.2 o (by simp [SV.open?, ho]) gg hb hm
        refine ⟨_, ⟨some ⟨gg, 0, none⟩, cap, rfl, (Nat.le_min.2 ⟨h4, hlen⟩), .inr ⟨gg, 0, vss, rfl, hst, hvs.mono fun _ _ h => h.tr htr, cur, e, _, h3, ?_⟩⟩, rfl⟩
        intro j z hj
        rw [← h6] at hj
        have := (List.getElem?_eq_some_iff.1 hj).1
        rw [List.getElem?_take_of_lt (by simp at this; omega)] at hj
        simpa using hj
    · cases hd
end
end Go.Sx
