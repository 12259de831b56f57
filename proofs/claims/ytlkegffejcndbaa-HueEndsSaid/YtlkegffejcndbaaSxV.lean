/-
  The symbolic layer, part 31: functions that call themselves; contracts that are narrowed.
-/
import Derived.Test.YtlkegffejcndbaaSxU
set_option linter.all false
namespace Go.Sx

/-- A contract just where a measure is below something. -/
def Con.upTo (k : Con) (μ : Ds k.args → Nat) (n : Nat) : Con := { k with pre := fun x => k.pre x ∧ μ x < n }
def LCon.upTo (k : LCon) (μ : Ds (AK.ins k.args) → Nat) (n : Nat) : LCon := { k with pre := fun x => k.pre x ∧ μ x < n }

theorem Holds.upTo {P : Program} {f : Nat} {k : Con} (μ : Ds k.args → Nat) (n : Nat) (h : Holds P f k) : Holds P f (k.upTo μ n) :=
  fun w M vs x hlt hA hpre => h w M vs x hlt hA hpre.1
theorem Holds.of_upTo {P : Program} {f : Nat} {k : Con} {μ : Ds k.args → Nat} (h : ∀ n, Holds P f (k.upTo μ n)) : Holds P f k :=
  fun w M vs x hlt hA hpre => h (μ x + 1) w M vs x hlt hA ⟨hpre, Nat.lt_succ_self _⟩
theorem Holds.less {P : Program} {f : Nat} {k : Con} {μ : Ds k.args → Nat} {n m : Nat} (hm : m ≤ n) (h : Holds P f (k.upTo μ n)) : Holds P f (k.upTo μ m) :=
  fun w M vs x hlt hA hpre => h w M vs x hlt hA ⟨hpre.1, Nat.lt_of_lt_of_le hpre.2 hm⟩
theorem HoldsL.of_upTo {P : Program} {f : Nat} {k : LCon} {μ : Ds (AK.ins k.args) → Nat} (h : ∀ n, HoldsL P f (k.upTo μ n)) : HoldsL P f k :=
  fun w M β vs x hlt hL hA hpre => h (μ x + 1) w M β vs x hlt hL hA ⟨hpre, Nat.lt_succ_self _⟩
theorem HoldsL.less {P : Program} {f : Nat} {k : LCon} {μ : Ds (AK.ins k.args) → Nat} {n m : Nat} (hm : m ≤ n) (h : HoldsL P f (k.upTo μ n)) : HoldsL P f (k.upTo μ m) :=
  fun w M β vs x hlt hL hA hpre => h w M β vs x hlt hL hA ⟨hpre.1, Nat.lt_of_lt_of_le hpre.2 hm⟩

theorem vcFun_eq {cx : Cx} {fn : Func} {k : Con} {μ : Ds k.args → Nat} {n : Nat} {x : Ds k.args} : vcFun cx fn (k.upTo μ n) x = vcFun cx fn k x := by kernel_rfl
theorem vcFun_upTo {cx : Cx} {fn : Func} {k : Con} {μ : Ds k.args → Nat} {n : Nat} {x : Ds k.args} (h : vcFun cx fn k x) : vcFun cx fn (k.upTo μ n) x := vcFun_eq.symm ▸ h
theorem vcFunL_eq {cx : Cx} {fn : Func} {f : Nat} {k : LCon} {μ : Ds (AK.ins k.args) → Nat} {n : Nat} {x : Ds (AK.ins k.args)} : vcFunL cx fn f (k.upTo μ n) x = vcFunL cx fn f k x := by kernel_rfl
theorem vcFunL_upTo {cx : Cx} {fn : Func} {f : Nat} {k : LCon} {μ : Ds (AK.ins k.args) → Nat} {n : Nat} {x : Ds (AK.ins k.args)} (h : vcFunL cx fn f k x) : vcFunL cx fn f (k.upTo μ n) x := vcFunL_eq.symm ▸ h
/-- **A contract of a function that calls itself.** -/
theorem holds_rec {P : Program} {f : Nat} {fn : Func} {c : Code} {k : Con} (μ : Ds k.args → Nat) (hf : P.funcs[f]? = some fn) (hb : fn.body = some c) (hm : P.follows .mixedOrders = true) (hlen : fn.results.toList.length ≤ 4) (hargs : k.args.length ≤ fn.ntmps)
    (hv : ∀ x, k.pre x → Holds P f (k.upTo μ (μ x)) → ∃ cx : Cx, CxOk P cx ∧ cx.yl = none ∧ cx.nt = fn.ntmps ∧ vcFun cx fn k x) : Holds P f k := by
  refine Holds.of_upTo (μ := μ) fun n => ?_
  induction n with
  | zero => exact fun w M vs x hlt hA hpre => absurd hpre.2 (Nat.not_lt_zero _)
  | succ n ih =>
    refine holds_of_vc (k := k.upTo μ (n + 1)) hf hb hm hlen hargs fun x hpre => ?_
    obtain ⟨cx, h1, h2, h3, h4⟩ := hv x hpre.1 (Holds.less (Nat.le_of_lt_succ hpre.2) ih)
    exact ⟨cx, h1, h2, h3, vcFun_upTo h4⟩
theorem holdsL_rec {P : Program} {f : Nat} {fn : Func} {c : Code} {k : LCon} (μ : Ds (AK.ins k.args) → Nat) (hf : P.funcs[f]? = some fn) (hb : fn.body = some c) (hm : P.follows .mixedOrders = true) (hlen : fn.results.toList.length ≤ 4) (hargs : k.args.length ≤ fn.ntmps)
    (hv : ∀ x, k.pre x → HoldsL P f (k.upTo μ (μ x)) → ∃ cx : Cx, CxOk P cx ∧ cx.yl = none ∧ cx.nt = fn.ntmps ∧ vcFunL cx fn f k x) : HoldsL P f k := by
  refine HoldsL.of_upTo (μ := μ) fun n => ?_
  induction n with
  | zero => exact fun w M β vs x hlt hL hA hpre => absurd hpre.2 (Nat.not_lt_zero _)
  | succ n ih =>
    refine holdsL_of_vc (k := k.upTo μ (n + 1)) hf hb hm hlen hargs fun x hpre => ?_
    obtain ⟨cx, h1, h2, h3, h4⟩ := hv x hpre.1 (HoldsL.less (Nat.le_of_lt_succ hpre.2) ih)
    exact ⟨cx, h1, h2, h3, vcFunL_upTo h4⟩
/-- A contract that asks for more and tells of the same. -/
theorem Holds.narrow {P : Program} {f : Nat} {k k' : Con} (ha : k'.args = k.args) (hr : k'.res = k.res) (h : ∀ x : Ds k'.args, k'.pre x → k.pre (ha ▸ x) ∧ k'.val x = hr ▸ k.val (ha ▸ x)) (hk : Holds P f k) : Holds P f k' := by
  obtain ⟨a, r, pre, val⟩ := k
  obtain ⟨a', r', pre', val'⟩ := k'
  cases ha
  cases hr
  intro w M vs x hlt hA hpre
  obtain ⟨h1, h2⟩ := h x hpre
  have := hk w M vs x hlt hA h1
  refine Calls.mono this ?_
  intro e w' ⟨v, he, hx, hR⟩
  exact ⟨v, he, hx, by rw [h2]; exact hR⟩
theorem enters_of {P : Program} {f : Nat} {fn : Func} {c : Code} (hf : P.funcs[f]? = some fn) (hname : (fn.name == "runtime.NumGoroutine") = false) (hb : fn.body = some c) : Enters P f := by
  intro args w
  have h1 : fn.name ≠ "runtime.NumGoroutine" := by simpa using hname
  simp [callFunc, hf, h1, hb]
end Go.Sx
