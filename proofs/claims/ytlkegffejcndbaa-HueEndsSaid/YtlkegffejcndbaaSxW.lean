/-
  The symbolic layer, part 32: the tables of one program; contracts from conditions, as a program's texts use them.
-/
import Derived.Test.YtlkegffejcndbaaSxV
import Derived.DeepKeys4
set_option linter.all false
namespace Go.Sx

def tab {α : Type} : List (Nat × α) → Nat → Option α
  | [], _ => none
  | p :: l, b => cond (Nat.beq b p.1) (some p.2) (tab l b)
theorem tab_mem {α : Type} : ∀ {l : List (Nat × α)} {n : Nat} {x : α}, tab l n = some x → (n, x) ∈ l
  | [], _, _, h => by cases h
  | p :: l, n, x, h => by
    simp only [tab, Bool.cond_eq_ite] at h
    split at h
    · rename_i hb
      cases h
      rw [Nat.eq_of_beq_eq_true hb]
      exact List.mem_cons_self
    · exact List.mem_cons_of_mem _ (tab_mem h)

/-- What is known of a program's types. -/
structure Tabs where
  tyL : List (Nat × Ty)
  elL : List (Nat × Nat)
  oneL : List Nat
  mtyL : List (Nat × (Nat × Nat))
def Tabs.ty (T : Tabs) : Nat → Option Ty := tab T.tyL
def Tabs.el (T : Tabs) (t : Nat) : Nat := (tab T.elL t).getD 0
def Tabs.ok (T : Tabs) (P : Program) : Bool := (T.tyL.all fun p => tyOk P T.ty T.el p.1) && T.oneL.all (oneOk P)
structure TabsOk (P : Program) (T : Tabs) : Prop where
  ok : T.ok P = true
  mty : ∀ p ∈ T.mtyL, P.underlying p.1 = some (.map p.2.1 p.2.2) ∧ Maps.Keyed P p.2.1 ∧ P.keyType p.2.1 = true

def Good (P : Program) (f : Nat) (k : Con) : Prop := Enters P f ∧ Holds P f k
def GoodL (P : Program) (f : Nat) (k : LCon) : Prop := Enters P f ∧ HoldsL P f k
def GoodI (P : Program) (f : Nat) (k : ICon) : Prop := Enters P f ∧ HoldsI P f k
def AllC (P : Program) : List (Nat × Con) → Prop
  | [] => True
  | p :: l => Good P p.1 p.2 ∧ AllC P l
def AllL (P : Program) : List (Nat × LCon) → Prop
  | [] => True
  | p :: l => GoodL P p.1 p.2 ∧ AllL P l
def AllI (P : Program) : List (Nat × ICon) → Prop
  | [] => True
  | p :: l => GoodI P p.1 p.2 ∧ AllI P l
theorem AllC.mem {P : Program} : ∀ {l : List (Nat × Con)} {p : Nat × Con}, AllC P l → p ∈ l → Good P p.1 p.2
  | _ :: _, _, h, .head _ => h.1
  | _ :: _, _, h, .tail _ hm => AllC.mem h.2 hm
theorem AllL.mem {P : Program} : ∀ {l : List (Nat × LCon)} {p : Nat × LCon}, AllL P l → p ∈ l → GoodL P p.1 p.2
  | _ :: _, _, h, .head _ => h.1
  | _ :: _, _, h, .tail _ hm => AllL.mem h.2 hm
theorem AllI.mem {P : Program} : ∀ {l : List (Nat × ICon)} {p : Nat × ICon}, AllI P l → p ∈ l → GoodI P p.1 p.2
  | _ :: _, _, h, .head _ => h.1
  | _ :: _, _, h, .tail _ hm => AllI.mem h.2 hm

def mkCx (T : Tabs) (nt : Nat) (conL : List (Nat × Con)) (lconL : List (Nat × LCon)) (iconL : List (Nat × ICon)) (bvs mbx : List Nat) (ann : List (Nat × LoopAnn)) (mkm : List (Nat × MInv)) (yl : Option YInfo) : Cx :=
  { ty := T.ty, el := T.el, one := fun t => memN t T.oneL, con := tab conL, bvs, mbx, ann := tab ann, nt, lcon := tab lconL, icon := tab iconL, mty := tab T.mtyL, mkm := tab mkm, yl }
theorem mem_memN : ∀ {l : List Nat} {a : Nat}, memN a l = true → a ∈ l
  | [], _, h => by cases h
  | b :: l, a, h => by
    simp only [memN, Bool.or_eq_true] at h
    rcases h with h | h
    · rw [Nat.eq_of_beq_eq_true h]; exact List.mem_cons_self
    · exact List.mem_cons_of_mem _ (mem_memN h)
theorem mkCx_ok {P : Program} {T : Tabs} {nt : Nat} {conL : List (Nat × Con)} {lconL : List (Nat × LCon)} {iconL : List (Nat × ICon)} {bvs mbx : List Nat} {ann : List (Nat × LoopAnn)} {mkm : List (Nat × MInv)} {yl : Option YInfo}
    (hT : TabsOk P T) (hc : AllC P conL) (hl : AllL P lconL) (hi : AllI P iconL) : CxOk P (mkCx T nt conL lconL iconL bvs mbx ann mkm yl) where
  ty t a h := by
    have h1 := hT.ok
    simp only [Tabs.ok, Bool.and_eq_true, List.all_eq_true] at h1
    exact tyF_of (h1.1 _ (tab_mem h)) h
  con f k h := hc.mem (tab_mem h)
  one t h := by
    have h1 := hT.ok
    simp only [Tabs.ok, Bool.and_eq_true, List.all_eq_true] at h1
    exact oneF_of (h1.2 _ (mem_memN h))
  lcon f k h := hl.mem (tab_mem h)
  icon f k h := hi.mem (tab_mem h)
  mty t k e h := hT.mty _ (tab_mem h)

/-- A function's form fits: it has a body, no odd name, few results, and room for its arguments. -/
def fnOk (fn : Func) (n : Nat) : Bool := fn.body.isSome && (!(fn.name == "runtime.NumGoroutine") && (Nat.ble fn.results.toList.length 4 && Nat.ble n fn.ntmps))
theorem fnOk_of {fn : Func} {n : Nat} (h : fnOk fn n = true) : (∃ c, fn.body = some c) ∧ (fn.name == "runtime.NumGoroutine") = false ∧ fn.results.toList.length ≤ 4 ∧ n ≤ fn.ntmps := by
  simp only [fnOk, Bool.and_eq_true, Bool.not_eq_true', Option.isSome_iff_exists] at h
  exact ⟨h.1, h.2.1, Nat.le_of_ble_eq_true h.2.2.1, Nat.le_of_ble_eq_true h.2.2.2⟩

section
variable {P : Program} {f : Nat} {fn : Func}
theorem con_of {k : Con} (hm : P.follows .mixedOrders = true) (hf : P.funcs[f]? = some fn) (hq : fnOk fn k.args.length = true)
    (hv : ∀ x, k.pre x → ∃ cx : Cx, CxOk P cx ∧ cx.yl = none ∧ cx.nt = fn.ntmps ∧ vcFun cx fn k x) : Good P f k := by
  obtain ⟨⟨c, hb⟩, h1, h2, h3⟩ := fnOk_of hq
  exact ⟨enters_of hf h1 hb, holds_of_vc hf hb hm h2 h3 hv⟩
theorem con_rec {k : Con} (μ : Ds k.args → Nat) (hm : P.follows .mixedOrders = true) (hf : P.funcs[f]? = some fn) (hq : fnOk fn k.args.length = true)
    (hv : ∀ x, k.pre x → Good P f (k.upTo μ (μ x)) → ∃ cx : Cx, CxOk P cx ∧ cx.yl = none ∧ cx.nt = fn.ntmps ∧ vcFun cx fn k x) : Good P f k := by
  obtain ⟨⟨c, hb⟩, h1, h2, h3⟩ := fnOk_of hq
  exact ⟨enters_of hf h1 hb, holds_rec μ hf hb hm h2 h3 fun x hp h => hv x hp ⟨enters_of hf h1 hb, h⟩⟩
theorem lcon_of {k : LCon} (hm : P.follows .mixedOrders = true) (hf : P.funcs[f]? = some fn) (hq : fnOk fn k.args.length = true)
    (hv : ∀ x, k.pre x → ∃ cx : Cx, CxOk P cx ∧ cx.yl = none ∧ cx.nt = fn.ntmps ∧ vcFunL cx fn f k x) : GoodL P f k := by
  obtain ⟨⟨c, hb⟩, h1, h2, h3⟩ := fnOk_of hq
  exact ⟨enters_of hf h1 hb, holdsL_of_vc hf hb hm h2 h3 hv⟩
theorem lcon_rec {k : LCon} (μ : Ds (AK.ins k.args) → Nat) (hm : P.follows .mixedOrders = true) (hf : P.funcs[f]? = some fn) (hq : fnOk fn k.args.length = true)
    (hv : ∀ x, k.pre x → GoodL P f (k.upTo μ (μ x)) → ∃ cx : Cx, CxOk P cx ∧ cx.yl = none ∧ cx.nt = fn.ntmps ∧ vcFunL cx fn f k x) : GoodL P f k := by
  obtain ⟨⟨c, hb⟩, h1, h2, h3⟩ := fnOk_of hq
  exact ⟨enters_of hf h1 hb, holdsL_rec μ hf hb hm h2 h3 fun x hp h => hv x hp ⟨enters_of hf h1 hb, h⟩⟩
end
/-- The same for an iterator. -/
def fnIOk (fn : Func) (n : Nat) : Bool := fn.body.isSome && (!(fn.name == "runtime.NumGoroutine") && (fn.results.toList.isEmpty && Nat.ble (n + 1) fn.ntmps))
theorem icon_of {P : Program} {f : Nat} {fn : Func} {k : ICon} (hm : P.follows .mixedOrders = true) (hf : P.funcs[f]? = some fn) (hq : fnIOk fn k.args.length = true)
    (hv : ∀ x ly, k.pre x → ∃ cx gid, CxOk P cx ∧ cx.yl = some ⟨ly, gid, k.two, k.elt, k.seq x⟩ ∧ cx.nt = fn.ntmps ∧ vcIter cx fn k x) : GoodI P f k := by
  simp only [fnIOk, Bool.and_eq_true, Bool.not_eq_true', Option.isSome_iff_exists, List.isEmpty_iff] at hq
  obtain ⟨⟨c, hb⟩, h1, h2, h3⟩ := hq
  exact ⟨enters_of hf h1 hb, holdsI_of_vc hf hb hm (by rw [← Array.toList_inj]; exact h2) (Nat.le_of_ble_eq_true h3) hv⟩
/-- The law of a map's key that is an array or a struct. -/
theorem deep_keyed {P : Program} (hl : laidOutB P = true) {k : TypeId} (hrow : k < P.types.size) (hk : P.keyTypeAt 8 k = true) (hwide : (match P.underlying k with | some (.array _ _) | some (.struct _) => true | _ => false) = true) : Maps.Keyed P k :=
  Maps.Keyed.of_law (deep_law_laid hl (m := 8) (by omega) hrow hk hwide)
end Go.Sx
