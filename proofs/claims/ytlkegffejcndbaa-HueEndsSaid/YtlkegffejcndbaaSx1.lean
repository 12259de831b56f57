/-
  The symbolic layer, first part: the types of data, the abstract values, the transfer of one operation, and the conditions that a piece of code gives. Nothing here speaks of one program.
-/
import Derived.CallsIn
import Derived.OrdersIn
import Derived.KernelRfl
set_option linter.all false
namespace Go.Sx

/-! ### The leaves: named, so that a tool of mine can print what the layer gives -/
namespace Z
@[reducible] def add (a b : Int) : Int := a + b
@[reducible] def sub (a b : Int) : Int := a - b
@[reducible] def mul (a b : Int) : Int := a * b
@[reducible] def neg (a : Int) : Int := -a
@[reducible] def quo (a b : Int) : Int := a.tdiv b
@[reducible] def rem (a b : Int) : Int := a.tmod b
@[reducible] def eq (a b : Int) : Bool := a == b
@[reducible] def lt (a b : Int) : Bool := decide (a < b)
@[reducible] def le (a b : Int) : Bool := decide (a ≤ b)
@[reducible] def bnot (a : Bool) : Bool := !a
@[reducible] def band (a b : Bool) : Bool := a && b
@[reducible] def beq (a b : Bool) : Bool := a == b
@[reducible] def bpick (c a b : Bool) : Bool := cond c a b
@[reducible] def zpick (c : Bool) (a b : Int) : Int := cond c a b
@[reducible] def zand (a b : Int) : Int := ((a.toNat &&& b.toNat : Nat) : Int)
@[reducible] def zor (a b : Int) : Int := ((a.toNat ||| b.toNat : Nat) : Int)
@[reducible] def zxor (a b : Int) : Int := ((a.toNat ^^^ b.toNat : Nat) : Int)
@[reducible] def zandn (a b : Int) : Int := ((a.toNat ^^^ (a.toNat &&& b.toNat) : Nat) : Int)
@[reducible] def shl (a b : Int) : Int := a * 2 ^ b.toNat
@[reducible] def shr (a b : Int) : Int := a.fdiv (2 ^ b.toNat)
@[reducible] def zmax (a b : Int) : Int := max a b
@[reducible] def zmin (a b : Int) : Int := min a b
@[reducible] def wrap (k : IntKind) (a : Int) : Int := k.wrap a
@[reducible] def nat (a : Int) : Nat := a.toNat
@[reducible] def ofN (n : Nat) : Int := (n : Int)
@[reducible] def len {α : Type} (l : List α) : Int := (l.length : Int)
@[reducible] def getD {α : Type} (l : List α) (i : Nat) (d : α) : α := l.getD i d
@[reducible] def set {α : Type} (l : List α) (i : Nat) (d : α) : List α := l.set i d
@[reducible] def take {α : Type} (l : List α) (i : Nat) : List α := l.take i
@[reducible] def drop {α : Type} (l : List α) (i : Nat) : List α := l.drop i
@[reducible] def app {α : Type} (l r : List α) : List α := l ++ r
@[reducible] def rep {α : Type} (n : Nat) (d : α) : List α := List.replicate n d
@[reducible] def pAnd (a b : Prop) : Prop := a ∧ b
@[reducible] def isT (a : Bool) : Prop := a = true
@[reducible] def isF (a : Bool) : Prop := a = false
@[reducible] def inIx (i n : Int) : Prop := 0 ≤ i ∧ i < n
@[reducible] def inTo (i n : Int) : Prop := 0 ≤ i ∧ i ≤ n
@[reducible] def inTo2 (i j n : Int) : Prop := 0 ≤ i ∧ i ≤ j ∧ j ≤ n
@[reducible] def nz (b : Int) : Prop := b ≠ 0
@[reducible] def nn (a b : Int) : Prop := 0 ≤ a ∧ 0 ≤ b
@[reducible] def sh (b : Int) : Prop := 0 ≤ b ∧ b < 64
@[reducible] def mk (n m : Int) : Prop := 0 ≤ n ∧ n ≤ m
def in64 (n : Int) : Prop := -9223372036854775808 ≤ n ∧ n ≤ 9223372036854775807
/-- A row of so many elements of so many cells is not too large. -/
def roomy (c n : Int) : Prop := n * (24 * c + 8) ≤ 140737488355328
/-- A loop: there is something that holds at each round's head, and a number that falls. -/
def LoopP {X : Type} (x₀ : X) (B : X → (X → Prop) → Prop) : Prop :=
  ∃ (I : X → Prop) (m : X → Nat), I x₀ ∧ ∀ x, I x → B x (fun x' => I x' ∧ m x' < m x)
/-- A range over a list: something that holds before each of its elements, by what is left of it. -/
def RangeP {X E : Type} (x₀ : X) (l : List E) (B : E → X → (X → Prop) → Prop) (K : X → Prop) : Prop :=
  ∃ I : List E → X → Prop, I l x₀ ∧ (∀ e r x, I (e :: r) x → B e x (I r)) ∧ ∀ x, I [] x → K x
/-- What is drawn on is what was said. -/
@[reducible] def same {α : Type} (a b : α) : Prop := a = b
end Z
/-! ### End of the leaves -/

/-! ### Types of data -/
inductive Ty where
  | i (k : IntKind) | bo | u | p (a b : Ty) | st (a : Ty) | sl (t : Ty) | arr (n : Nat) (t : Ty) | ref (t : Ty) | f1 (a r : Ty) | f2 (a b r : Ty) | sq (two : Bool) (a : Ty)

/-- A function as data: where it may be called, and what it gives. -/
structure Fun (α β : Type) where
  pre : α → Prop
  val : α → β

/-- An iterator as data: when it may be ranged over, and what it yields. -/
structure Seq (α : Type) where
  pre : Prop
  val : List α

@[reducible] def Ty.D : Ty → Type
  | .i _ => Int
  | .bo => Bool
  | .u => Unit
  | .p a b => a.D × b.D
  | .st a => a.D
  | .sl t => List t.D
  | .arr _ t => List t.D
  | .ref t => t.D
  | .f1 a r => Fun a.D r.D
  | .f2 a b r => Fun (a.D × b.D) r.D
  | .sq _ a => Seq a.D

def Ty.z : (t : Ty) → t.D
  | .i _ => (0 : Int)
  | .bo => false
  | .u => ()
  | .p a b => (a.z, b.z)
  | .st a => a.z
  | .sl _ => []
  | .arr n t => Z.rep n t.z
  | .ref t => t.z
  | .f1 _ r => ⟨fun _ => False, fun _ => r.z⟩
  | .f2 _ _ r => ⟨fun _ => False, fun _ => r.z⟩
  | .sq _ _ => ⟨False, []⟩

def Ty.n : Ty → Nat
  | .u => 0
  | .p a b => a.n + b.n
  | .st a => a.n
  | .arr k t => k * t.n
  | _ => 1

/-- Is its value one of several cells? -/
def Ty.agg : Ty → Bool
  | .st _ => true
  | .arr _ _ => true
  | .p _ _ => true
  | .u => true
  | _ => false

/-- No memory behind it. -/
def Ty.flat : Ty → Bool
  | .i _ => true
  | .bo => true
  | .u => true
  | .p a b => a.flat && b.flat
  | .st a => a.flat
  | .arr _ t => t.flat
  | _ => false

def ikBeq : IntKind → IntKind → Bool
  | .i8, .i8 | .i16, .i16 | .i32, .i32 | .i64, .i64 | .u8, .u8 | .u16, .u16 | .u32, .u32 | .u64, .u64 => true
  | _, _ => false
theorem ikBeq_eq {a b : IntKind} (h : ikBeq a b = true) : a = b := by cases a <;> cases b <;> first | rfl | cases h

def Ty.beq : Ty → Ty → Bool
  | .i j, .i k => ikBeq j k
  | .bo, .bo => true
  | .u, .u => true
  | .p a b, .p c d => a.beq c && b.beq d
  | .st a, .st c => a.beq c
  | .sl a, .sl c => a.beq c
  | .arr n a, .arr m c => Nat.beq n m && a.beq c
  | .ref a, .ref c => a.beq c
  | .f1 a r, .f1 c q => a.beq c && r.beq q
  | .f2 a b r, .f2 c d q => a.beq c && (b.beq d && r.beq q)
  | .sq n a, .sq m c => (n == m) && a.beq c
  | _, _ => false

theorem Ty.beq_eq : {a b : Ty} → a.beq b = true → a = b
  | .i _, .i _, h => by simp only [Ty.beq] at h; rw [ikBeq_eq h]
  | .bo, .bo, _ => rfl
  | .u, .u, _ => rfl
  | .p _ _, .p _ _, h => by simp only [Ty.beq, Bool.and_eq_true] at h; rw [Ty.beq_eq h.1, Ty.beq_eq h.2]
  | .st _, .st _, h => by simp only [Ty.beq] at h; rw [Ty.beq_eq h]
  | .sl _, .sl _, h => by simp only [Ty.beq] at h; rw [Ty.beq_eq h]
  | .arr _ _, .arr _ _, h => by simp only [Ty.beq, Bool.and_eq_true] at h; rw [Nat.eq_of_beq_eq_true h.1, Ty.beq_eq h.2]
  | .ref _, .ref _, h => by simp only [Ty.beq] at h; rw [Ty.beq_eq h]
  | .f1 _ _, .f1 _ _, h => by simp only [Ty.beq, Bool.and_eq_true] at h; rw [Ty.beq_eq h.1, Ty.beq_eq h.2]
  | .f2 _ _ _, .f2 _ _ _, h => by simp only [Ty.beq, Bool.and_eq_true] at h; rw [Ty.beq_eq h.1, Ty.beq_eq h.2.1, Ty.beq_eq h.2.2]
  | .sq _ _, .sq _ _, h => by simp only [Ty.beq, Bool.and_eq_true, beq_iff_eq] at h; rw [h.1, Ty.beq_eq h.2]

/-- A datum of one type taken as one of another: just if they are the same. -/
def castD (t t' : Ty) (x : t.D) : Option t'.D := if h : t.beq t' = true then some (Ty.beq_eq h ▸ x) else none

/-! ### Parts -/
inductive Stp where
  | l | r | o | x (i : Nat)

/-- A datum with its type. -/
structure Dv where
  t : Ty
  x : t.D

def getP : (t : Ty) → t.D → List Stp → Option Dv
  | t, x, [] => some ⟨t, x⟩
  | .p a _, x, .l :: q => getP a x.1 q
  | .p _ b, x, .r :: q => getP b x.2 q
  | .st a, x, .o :: q => getP a x q
  | .arr _ t, x, .x i :: q => getP t (Z.getD x i t.z) q
  | _, _, _ => none

def setP : (t : Ty) → t.D → List Stp → Dv → Option t.D
  | t, _, [], v => castD v.t t v.x
  | .p a _, x, .l :: q, v => (setP a x.1 q v).map fun y => (y, x.2)
  | .p _ b, x, .r :: q, v => (setP b x.2 q v).map fun y => (x.1, y)
  | .st a, x, .o :: q, v => setP a x q v
  | .arr _ t, x, .x i :: q, v => (setP t (Z.getD x i t.z) q v).map fun y => Z.set x i y
  | _, _, _, _ => none

/-- Where a part lies, and its type. -/
def offP : Ty → List Stp → Option (Nat × Ty)
  | t, [] => some (0, t)
  | .p a _, .l :: q => offP a q
  | .p a b, .r :: q => (offP b q).map fun y => (a.n + y.1, y.2)
  | .st a, .o :: q => offP a q
  | .arr _ t, .x i :: q => (offP t q).map fun y => (i * t.n + y.1, y.2)
  | _, _ => none

/-- The way to field k of a struct's spine. -/
def spinePath : Ty → Nat → Option (List Stp)
  | .p _ _, 0 => some [.l]
  | .p _ b, k + 1 => (spinePath b k).map (.r :: ·)
  | .u, _ => none
  | _, 0 => some []
  | _, _ => none
def fieldPath : Ty → Nat → Option (List Stp)
  | .st a, k => (spinePath a k).map (.o :: ·)
  | _, _ => none

def nth {α : Type} : List α → Nat → Option α
  | [], _ => none
  | a :: _, 0 => some a
  | _ :: l, k + 1 => nth l k
def memN (a : Nat) : List Nat → Bool
  | [] => false
  | b :: l => Nat.beq a b || memN a l

/-! ### Abstract values -/
inductive SV where
  | d (t : Ty) (x : t.D)
  | ptr (o : Nat) (p : List Stp)
  | os (o : Nat)
  | nl (e : Nat) (t : Ty)
  | mp (o : Nat)      -- a map that is asked for what is known
inductive AV where
  | un
  | yl (ly : Nat)     -- the function that a range's body stands behind
  | s (v : SV)
  | clo (f : Nat) (c : List SV)
  | tup (l : List SV)
inductive Ob where
  | bx (fz : Bool) (t : Ty) (x : t.D)
  | row (fz : Bool) (e : Nat) (t : Ty) (l : List t.D)
  | bv (v : AV)
  | mm (tk tv : Ty) (inv : tk.D → tv.D → Prop)      -- a map; of each of its entries this holds
  | gh (t : Ty) (x : t.D)                           -- no memory: what has been yielded

structure Ent where
  g : List (Nat × Bool)
  v : AV
/-- What is known: of each slot; of each object: never there, gone, or there. -/
structure ASt where
  env : Nat → Ent
  obs : Nat → Option (Option Ob)

/-! ### Contracts -/
@[reducible] def Ds : List Ty → Type
  | [] => Unit
  | [a] => a.D
  | a :: b :: r => a.D × Ds (b :: r)
structure Con where
  args : List Ty
  res : List Ty
  pre : Ds args → Prop
  val : Ds args → Ds res

/-- What is known of the entries of a map. -/
structure MInv where
  tk : Ty
  tv : Ty
  inv : tk.D → tv.D → Prop
/-- Arguments of a call that is lent more than data: rows and boxes of the caller's; a box with a map of what is known; a box with the closure itself. -/
inductive AK where
  | d (t : Ty) | row (e : Nat) (t : Ty) | box (t : Ty) | mem | self
def AK.ins : List AK → List Ty
  | [] => []
  | .d t :: r => t :: ins r
  | .row _ t :: r => .sl t :: ins r
  | .box t :: r => t :: ins r
  | .mem :: r => ins r
  | .self :: r => ins r
def AK.boxes : List AK → List Ty
  | [] => []
  | .box t :: r => t :: boxes r
  | .d _ :: r => boxes r
  | .row _ _ :: r => boxes r
  | .mem :: r => boxes r
  | .self :: r => boxes r
/-- A contract that is lent objects: 'row': the result is a row of the caller's own; the boxes' new contents come behind the results. -/
structure LCon where
  args : List AK
  ncap : Nat
  res : List Ty
  row : Option Nat
  minv : Ds (AK.ins args) → MInv
  pre : Ds (AK.ins args) → Prop
  val : Ds (AK.ins args) → Ds (res ++ AK.boxes args)
/-- An iterator's contract: by what it has captured. -/
structure ICon where
  args : List Ty
  two : Bool
  elt : Ty
  pre : Ds args → Prop
  seq : Ds args → List elt.D
/-- Within an iterator: where what has been yielded is kept, and what is to be yielded. -/
structure YInfo where
  ly : Nat
  gid : Nat
  two : Bool
  elt : Ty
  all : List elt.D

structure LoopAnn where
  slots : List (Nat × Bool)      -- a slot, and whether it holds a row of the call's own
  objs : List Nat                -- objects that the rounds change
  keep : List Nat                -- objects that they leave alone

/-- What the transfer looks at: the types' table; the contracts; variables that hold more than data; boxes that are written; how the loops are opened. -/
structure Cx where
  ty : Nat → Option Ty
  el : Nat → Nat
  one : Nat → Bool      -- types of one cell, whatever they are
  con : Nat → Option Con
  bvs : List Nat
  mbx : List Nat
  ann : Nat → Option LoopAnn
  nt : Nat
  lcon : Nat → Option LCon
  icon : Nat → Option ICon
  mty : Nat → Option (Nat × Nat)      -- types of maps: the key's, the element's
  mkm : Nat → Option MInv              -- maps that are made: what is known of their entries
  yl : Option YInfo

def SV.dv (s : ASt) : SV → Option Dv
  | .d t x => some ⟨t, x⟩
  | .ptr o p => match s.obs o with
    | some (some (.bx _ t x)) => (getP t x p).map fun v => ⟨.ref v.t, v.x⟩
    | some (some (.row _ _ t l)) => match p with
      | .x i :: q => (getP t (Z.getD l i t.z) q).map fun v => ⟨.ref v.t, v.x⟩
      | _ => none
    | _ => none
  | .os o => match s.obs o with
    | some (some (.row _ _ t l)) => some ⟨.sl t, l⟩
    | _ => none
  | .nl _ t => some ⟨.sl t, []⟩
  | .mp _ => none

/-- Is its memory, if it has any, the call's own and still open? Then this object. -/
def SV.open? (s : ASt) : SV → List Nat
  | .ptr o _ => match s.obs o with
    | some (some (.bx false _ _)) => [o]
    | some (some (.row false _ _ _)) => [o]
    | _ => []
  | .os o => match s.obs o with
    | some (some (.row false _ _ _)) => [o]
    | _ => []
  | _ => []

def mkDs : (ts : List Ty) → List Dv → Option (Ds ts)
  | [], [] => some ()
  | [a], [v] => castD v.t a v.x
  | a :: b :: r, v :: w => match castD v.t a v.x, mkDs (b :: r) w with
    | some x, some y => some (x, y)
    | _, _ => none
  | _, _ => none
def unDs : (ts : List Ty) → Ds ts → List Dv
  | [], _ => []
  | [a], x => [⟨a, x⟩]
  | _ :: b :: r, x => ⟨_, x.1⟩ :: unDs (b :: r) x.2
def dsOne (r : Ty) : (ts : List Ty) → Ds ts → r.D
  | [a], x => (castD a r x).getD r.z
  | _, _ => r.z

def optAll {α β : Type} (f : α → Option β) : List α → Option (List β)
  | [] => some []
  | a :: l => match f a, optAll f l with
    | some x, some y => some (x :: y)
    | _, _ => none

/-- A closure of two parameters. -/
def cloDv2 (a b r : Ty) : (l : List Ty) → (Ds (a :: b :: l) → Prop) → (Ds (a :: b :: l) → Ds [r]) → List Dv → Option Dv
  | [], pre, val, [] => some ⟨.f2 a b r, ⟨pre, val⟩⟩
  | [], _, _, _ => none
  | c :: l, pre, val, caps => match mkDs (c :: l) caps with
    | some y => some ⟨.f2 a b r, ⟨fun x => pre (x.1, x.2, y), fun x => val (x.1, x.2, y)⟩⟩
    | none => none
/-- A closure as a function that is data: its contract, at what it has captured. -/
def cloDv (cx : Cx) (s : ASt) (f : Nat) (c : List SV) : Option Dv :=
  match cx.con f, optAll (SV.dv s) c with
  | some ⟨[a], [r], pre, val⟩, some [] => cond r.flat (some ⟨.f1 a r, ⟨pre, val⟩⟩) none
  | some ⟨a :: b :: l, [r], pre, val⟩, some caps => cond r.flat
    (match mkDs (b :: l) caps with
      | some y => some ⟨.f1 a r, ⟨fun x => pre (x, y), fun x => val (x, y)⟩⟩
      | none => cloDv2 a b r l pre val caps) none
  | _, _ => none

def iconDv (s : ASt) (k : ICon) (c : List SV) : Option Dv :=
  match optAll (SV.dv s) c with
  | some vs => match mkDs k.args vs with
    | some x => some ⟨.sq k.two k.elt, ⟨k.pre x, k.seq x⟩⟩
    | none => none
  | none => none
def AV.dv (cx : Cx) (s : ASt) : AV → Option Dv
  | .s v => v.dv s
  | .clo f c => match cx.icon f with
    | some k => iconDv s k c
    | none => cloDv cx s f c
  | _ => none
def AV.open? (s : ASt) : AV → List Nat
  | .s v => v.open? s
  | .clo _ c => c.flatMap (SV.open? s)
  | _ => []
def live (s : ASt) (o : Nat) : Bool := match s.obs o with
  | some (some _) => true
  | _ => false
/-- Is its value surely one cell? -/
def AV.one (s : ASt) : AV → Bool
  | .s (.d t _) => !t.agg
  | .s (.nl _ _) => true
  | .s (.ptr o _) => live s o
  | .s (.os o) => live s o
  | .s (.mp o) => live s o
  | .clo _ _ => true
  | _ => false
def svIds : SV → List Nat
  | .ptr o _ => [o]
  | .os o => [o]
  | .mp o => [o]
  | _ => []
/-- The objects that a value speaks of. -/
def AV.ids : AV → List Nat
  | .s v => svIds v
  | .clo _ c => c.flatMap svIds
  | _ => []

/-- Where, in its object, what a pointer points to lies, and its type. -/
def obOff : Ob → List Stp → Option (Nat × Ty)
  | .bx _ t _, p => offP t p
  | .row _ _ t _, .x i :: q => (offP t q).map fun y => (i * t.n + y.1, y.2)
  | _, _ => none

/-! ### The transfer of one operation -/
structure Eff where
  obl : Option Prop
  av : AV
  rd : List Nat
  wr : List (Nat × Option Ob)


def subList (a b : List (Nat × Bool)) : Bool := a.all fun x => b.any fun y => Nat.beq x.1 y.1 && (x.2 == y.2)

def kMin : IntKind → Int
  | .i8 => -128
  | .i16 => -32768
  | .i32 => -2147483648
  | .i64 => -9223372036854775808
  | _ => 0
def kMax : IntKind → Int
  | .i8 => 127
  | .i16 => 32767
  | .i32 => 2147483647
  | .i64 => 9223372036854775807
  | .u8 => 255
  | .u16 => 65535
  | .u32 => 4294967295
  | .u64 => 18446744073709551615
def constAV (cx : Cx) (ty : TypeId) : Value → AV
  | .int k n => cond (decide (kMin k ≤ n) && decide (n ≤ kMax k)) (.s (.d (.i k) n)) .un
  | .bool x => .s (.d .bo x)
  | .slice none 0 0 => match cx.ty ty with
    | some (.sl t) => .s (.nl (cx.el ty) t)
    | _ => .un
  | _ => .un

/-- The value of an operand, for an operation that is carried out just under these guards; 'ty': what a bare nil is. -/
def ev (cx : Cx) (s : ASt) (g : List (Nat × Bool)) (ty : TypeId) : Operand → AV
  | .tmp t => cond (subList (s.env t).g g) (s.env t).v .un
  | .const v => constAV cx ty v
  | .func f => .clo f []
  | .global _ => .un

def asInt : AV → Option (IntKind × Int)
  | .s (.d (.i k) n) => some (k, n)
  | _ => none
def asB : AV → Option Bool
  | .s (.d .bo x) => some x
  | _ => none

def ok (av : AV) : Option Eff := some ⟨none, av, [], []⟩
def okO (o : Prop) (av : AV) : Option Eff := some ⟨some o, av, [], []⟩

/-- Arithmetic and comparison of integers. -/
def arith (op : BinOp) (k : IntKind) (a b : Int) : Option Eff :=
  match op with
  | .add => match k with
    | .i64 => okO (Z.in64 (Z.add a b)) (.s (.d (.i .i64) (Z.add a b)))
    | _ => ok (.s (.d (.i k) (Z.wrap k (Z.add a b))))
  | .sub => match k with
    | .i64 => okO (Z.in64 (Z.sub a b)) (.s (.d (.i .i64) (Z.sub a b)))
    | _ => ok (.s (.d (.i k) (Z.wrap k (Z.sub a b))))
  | .mul => match k with
    | .i64 => okO (Z.in64 (Z.mul a b)) (.s (.d (.i .i64) (Z.mul a b)))
    | _ => ok (.s (.d (.i k) (Z.wrap k (Z.mul a b))))
  | .quo => match k with
    | .i64 => okO (Z.pAnd (Z.nz b) (Z.in64 (Z.quo a b))) (.s (.d (.i .i64) (Z.quo a b)))
    | _ => none
  | .rem => okO (Z.nz b) (.s (.d (.i k) (Z.rem a b)))
  | .eql => ok (.s (.d .bo (Z.eq a b)))
  | .neq => ok (.s (.d .bo (Z.bnot (Z.eq a b))))
  | .lss => ok (.s (.d .bo (Z.lt a b)))
  | .leq => ok (.s (.d .bo (Z.le a b)))
  | .gtr => ok (.s (.d .bo (Z.lt b a)))
  | .geq => ok (.s (.d .bo (Z.le b a)))
  | _ => none

/-- Bits, of numbers that are not below 0. -/
def bits (op : BinOp) (a b : Int) : Option Eff :=
  match op with
  | .and => okO (Z.nn a b) (.s (.d (.i .i64) (Z.zand a b)))
  | .or => okO (Z.nn a b) (.s (.d (.i .i64) (Z.zor a b)))
  | .xor => okO (Z.nn a b) (.s (.d (.i .i64) (Z.zxor a b)))
  | .andNot => okO (Z.nn a b) (.s (.d (.i .i64) (Z.zandn a b)))
  | .shl => okO (Z.pAnd (Z.sh b) (Z.in64 (Z.shl a b))) (.s (.d (.i .i64) (Z.shl a b)))
  | .shr => okO (Z.sh b) (.s (.d (.i .i64) (Z.shr a b)))
  | _ => none

/-- How deep a type of data that can be compared is. -/
def Ty.deep : Ty → Nat
  | .p a b => a.deep + b.deep
  | .st a => a.deep + 1
  | _ => 1

/-- Are two data of a type that can be compared the same? -/
def eqD : (t : Ty) → t.D → t.D → Option Bool
  | .i _, x, y => some (Z.eq x y)
  | .bo, x, y => some (Z.beq x y)
  | .u, _, _ => some true
  | .p a b, x, y => match eqD a x.1 y.1, eqD b x.2 y.2 with
    | some p, some q => some (Z.band p q)
    | _, _ => none
  | .st a, x, y => eqD a x y
  | _, _, _ => none

/-- Is its zero value a datum? (A nil pointer is none.) -/
def Ty.zOk : Ty → Bool
  | .p a b => a.zOk && b.zOk
  | .st a => a.zOk
  | .arr _ t => t.zOk
  | .ref _ => false
  | _ => true
def zeroOf (cx : Cx) (T : TypeId) : Option Dv := match cx.ty T with
  | some t => cond t.zOk (some ⟨t, t.z⟩) none
  | none => none

/-- The way to part k of a struct or of an array. -/
def partPath : Ty → Nat → Option (List Stp)
  | .arr n _, k => cond (Nat.ble (k + 1) n) (some [.x k]) none
  | t, k => fieldPath t k
/-- Parts put into a struct or an array. -/
def putParts (t : Ty) : t.D → List (Nat × Dv) → Option t.D
  | x, [] => some x
  | x, (k, v) :: r => match partPath t k with
    | some q => match setP t x q v with
      | some y => putParts t y r
      | none => none
    | none => none

def frOb : Ob → Ob
  | .bx _ t x => .bx true t x
  | .row _ e t l => .row true e t l
  | .bv v => .bv v
  | .mm tk tv inv => .mm tk tv inv
  | .gh t x => .gh t x
def freeze (s : ASt) : List Nat → List (Nat × Option Ob)
  | [] => []
  | o :: r => match s.obs o with
    | some (some ob) => (o, some (frOb ob)) :: freeze s r
    | _ => freeze s r

/-- Data for good: what of the call's own is in them is not written any more. -/
def solid (cx : Cx) (s : ASt) (l : List AV) : Option (List Dv × List Nat × List (Nat × Option Ob)) :=
  match optAll (AV.dv cx s) l with
  | some vs => some (vs, l.flatMap AV.ids, freeze s (l.flatMap (AV.open? s)))
  | none => none

def maxInt : List Int → Option Int
  | [] => none
  | a :: l => some (l.foldl Z.zmax a)
def minInt : List Int → Option Int
  | [] => none
  | a :: l => some (l.foldl Z.zmin a)

/-- The most elements of a slice, by the bytes of one. -/
@[reducible] def roomy (t : Ty) (n : Int) : Prop := Z.roomy (Z.ofN t.n) n

def appendEff (cx : Cx) (s : ASt) (dst : Nat) (ty : TypeId) (x y : AV) : Option Eff :=
  match cx.ty ty, y.dv cx s with
  | some (.sl t), some ⟨ty', l'⟩ => match castD ty' (.sl t) l' with
    | some l' => match s.obs dst with
      | some _ => none
      | none => match x with
        | .s (.nl e₀ _) => cond (Nat.beq e₀ (cx.el ty)) (some ⟨some (roomy t (Z.len (l' : List t.D))), .s (.os dst), dst :: y.ids, [(dst, some (.row false (cx.el ty) t l'))]⟩) none
        | .s (.os o) => match s.obs o with
          | some (some (.row false e₀ t₀ l₀)) => match castD (.sl t₀) (.sl t) l₀ with
            | some l => cond (Nat.beq e₀ (cx.el ty)) (some ⟨some (roomy t (Z.len (Z.app (l : List t.D) (l' : List t.D)))), .s (.os dst), dst :: o :: y.ids, [(o, none), (dst, some (.row false (cx.el ty) t (Z.app (l : List t.D) (l' : List t.D))))]⟩) none
            | none => none
          | _ => none
        | _ => none
    | none => none
  | _, _ => none

/-- A call by its contract. -/
def callEff (cx : Cx) (s : ASt) (f : Nat) (args : List AV) : Option Eff :=
  match cx.con f with
  | none => none
  | some k =>
    let fl := k.res.all Ty.flat
    match optAll (AV.dv cx s) args with
    | none => none
    | some vs => match mkDs k.args vs with
      | none => none
      | some x => some ⟨some (k.pre x), (match unDs k.res (k.val x) with
          | [v] => .s (.d v.t v.x)
          | l => .tup (l.map fun v => .d v.t v.x)), args.flatMap AV.ids, cond fl [] (freeze s (args.flatMap (AV.open? s)))⟩

/-! Calls that are lent objects. -/
def pid (i : Nat) : Nat := 200000 + 2 * i
def qid (i : Nat) : Nat := 200001 + 2 * i
def rid : Nat := 199999
def pathEq : List Stp → List Stp → Bool
  | [], [] => true
  | .l :: p, .l :: q => pathEq p q
  | .r :: p, .r :: q => pathEq p q
  | .o :: p, .o :: q => pathEq p q
  | .x i :: p, .x j :: q => Nat.beq i j && pathEq p q
  | _, _ => false
/-- When two values are the same: what is to be shown of their data. -/
def eqSV : SV → SV → Option Prop
  | .d t x, .d t' x' => match castD t' t x' with
    | some y => some (Z.same x y)
    | none => none
  | .ptr o p, .ptr o' p' => cond (Nat.beq o o' && pathEq p p') (some True) none
  | .os o, .os o' => cond (Nat.beq o o') (some True) none
  | .mp o, .mp o' => cond (Nat.beq o o') (some True) none
  | .nl e t, .nl e' t' => cond (Nat.beq e e' && t.beq t') (some True) none
  | _, _ => none
def eqSVs : List SV → List SV → Option (List Prop)
  | [], [] => some []
  | a :: l, b :: r => match eqSV a b, eqSVs l r with
    | some p, some q => some (p :: q)
    | _, _ => none
  | _, _ => none
/-- The callee's view of its arguments: values, and objects. -/
def cSvs : List AK → Nat → List Dv → List SV
  | .d _ :: r, i, v :: vs => .d v.t v.x :: cSvs r (i + 1) vs
  | .row _ _ :: r, i, _ :: vs => .os (pid i) :: cSvs r (i + 1) vs
  | .box _ :: r, i, _ :: vs => .ptr (pid i) [] :: cSvs r (i + 1) vs
  | .mem :: r, i, vs => .ptr (pid i) [] :: cSvs r (i + 1) vs
  | .self :: r, i, vs => .ptr (pid i) [] :: cSvs r (i + 1) vs
  | _, _, _ => []
def cObs (f : Nat) (caps : List SV) (m : MInv) : List AK → Nat → List Dv → List (Nat × Ob)
  | .d _ :: r, i, _ :: vs => cObs f caps m r (i + 1) vs
  | .row e _ :: r, i, ⟨.sl t, l⟩ :: vs => (pid i, .row false e t l) :: cObs f caps m r (i + 1) vs
  | .box _ :: r, i, ⟨t, x⟩ :: vs => (pid i, .bx false t x) :: cObs f caps m r (i + 1) vs
  | .mem :: r, i, vs => (pid i, .bv (.s (.mp (qid i)))) :: (qid i, .mm m.tk m.tv m.inv) :: cObs f caps m r (i + 1) vs
  | .self :: r, i, vs => (pid i, .bv (.clo f caps)) :: cObs f caps m r (i + 1) vs
  | _, _, _ => []
def obsOf : List (Nat × Ob) → Nat → Option (Option Ob)
  | [] => fun _ => none
  | (k, ob) :: r => fun o => cond (Nat.beq o k) (some (some ob)) (obsOf r o)
def LCon.svs (k : LCon) (x : Ds (AK.ins k.args)) : List SV := cSvs k.args 0 (unDs _ x)
def LCon.caps (k : LCon) (x : Ds (AK.ins k.args)) : List SV := (k.svs x).drop (k.args.length - k.ncap)
def LCon.obs (k : LCon) (f : Nat) (x : Ds (AK.ins k.args)) : List (Nat × Ob) := cObs f (k.caps x) (k.minv x) k.args 0 (unDs _ x)

/-- A caller's arguments held against what a callee is lent. -/
structure Mt where
  dvs : List Dv
  ren : List (Nat × Option Nat)
  eqs : List Prop
  mms : List MInv
  sol : List AV
  rows : List Nat
  bxs : List Nat
def matchK (cx : Cx) (s : ASt) (f : Nat) (caps : List SV) : List AK → Nat → List AV → Option Mt
  | [], _, [] => some ⟨[], [], [], [], [], [], []⟩
  | k :: r, i, x :: xs => match matchK cx s f caps r (i + 1) xs with
    | none => none
    | some m => match k with
      | .d _ => match x.dv cx s with
        | some v => some { m with dvs := v :: m.dvs, sol := x :: m.sol }
        | none => none
      | .row e t => match x with
        | .s (.nl e' t') => cond (Nat.beq e' e && t'.beq t) (some { m with dvs := ⟨.sl t', []⟩ :: m.dvs, ren := (pid i, none) :: m.ren }) none
        | .s (.os o) => match s.obs o with
          | some (some (.row false e' t' l)) => cond (Nat.beq e' e && t'.beq t) (some { m with dvs := ⟨.sl t', l⟩ :: m.dvs, ren := (pid i, some o) :: m.ren, rows := o :: m.rows }) none
          | _ => none
        | _ => none
      | .box t => match x with
        | .s (.ptr o []) => match s.obs o with
          | some (some (.bx false t' y)) => cond (t'.beq t) (some { m with dvs := ⟨t', y⟩ :: m.dvs, ren := (pid i, some o) :: m.ren, bxs := o :: m.bxs }) none
          | _ => none
        | _ => none
      | .mem => match x with
        | .s (.ptr o []) => match s.obs o with
          | some (some (.bv (.s (.mp q)))) => match s.obs q with
            | some (some (.mm tk tv inv)) => some { m with ren := (pid i, some o) :: (qid i, some q) :: m.ren, mms := ⟨tk, tv, inv⟩ :: m.mms }
            | _ => none
          | _ => none
        | _ => none
      | .self => match x with
        | .s (.ptr o []) => match s.obs o with
          | some (some (.bv (.clo f' caps'))) => match Nat.beq f' f, eqSVs caps' caps with
            | true, some l => some { m with ren := (pid i, some o) :: m.ren, eqs := l ++ m.eqs }
            | _, _ => none
          | _ => none
        | _ => none
  | _, _, _ => none
def nodupN : List Nat → Bool
  | [] => true
  | a :: l => !memN a l && nodupN l
def disjN (a b : List Nat) : Bool := a.all fun x => !memN x b
/-- The boxes' new contents. -/
def boxWr : List Nat → List Dv → List (Nat × Option Ob)
  | o :: r, v :: vs => (o, some (.bx false v.t v.x)) :: boxWr r vs
  | _, _ => []
/-- What a closure that is lent to itself may have captured, and the callee's view of it. -/
def capsOk : List SV → List SV → Bool
  | [], [] => true
  | .d _ _ :: c, .d _ _ :: c' => capsOk c c'
  | .ptr _ [] :: c, .ptr _ [] :: c' => capsOk c c'
  | _, _ => false
def allP : List Prop → Prop
  | [] => True
  | p :: l => p ∧ allP l
def avOf : List Dv → AV
  | [v] => .s (.d v.t v.x)
  | l => .tup (l.map fun v => .d v.t v.x)
def callLEff (cx : Cx) (s : ASt) (d f : Nat) (k : LCon) (args : List AV) (caps : List SV) : Option Eff :=
  match matchK cx s f caps k.args 0 (args ++ caps.map .s) with
  | none => none
  | some m => match mkDs (AK.ins k.args) m.dvs with
    | none => none
    | some x =>
      let out := unDs _ (k.val x)
      let fz := freeze s (m.sol.flatMap (AV.open? s))
      let lent := m.ren.filterMap (·.2)
      let ids := m.sol.flatMap AV.ids ++ lent
      let wr := m.rows.map (fun o => (o, none)) ++ (boxWr m.bxs (out.drop k.res.length) ++ fz)
      let obl := k.pre x ∧ (allP m.eqs ∧ allP (m.mms.map fun a => Z.same a (k.minv x)))
      cond ((Nat.beq k.ncap caps.length && (Nat.ble k.ncap k.args.length && capsOk caps (k.caps x))) && (nodupN lent && disjN lent (m.sol.flatMap (AV.open? s)))) (match k.row, k.res, out with
        | none, _, _ => some ⟨some obl, avOf (out.take k.res.length), ids, wr⟩
        | some e, [.sl t], ⟨.sl t', l⟩ :: _ => match s.obs d with
          | none => cond (t'.beq t) (some ⟨some obl, .s (.os d), d :: ids, (d, some (.row false e t' l)) :: wr⟩) none
          | some _ => none
        | _, _, _ => none) none

def callVal (cx : Cx) (s : ASt) (d : Nat) (f : AV) (args : List AV) : Option Eff :=
  match f with
  | .clo g c => match cx.lcon g with
    | some k => callLEff cx s d g k args c
    | none => callEff cx s g (args ++ c.map .s)
  | .s (.d (.f1 a r) F) => match args with
    | [x] => match x.dv cx s with
      | some v => match castD v.t a v.x with
        | some y => cond r.flat (some ⟨some ((F : Fun a.D r.D).pre y), .s (.d r ((F : Fun a.D r.D).val y)), x.ids, []⟩) none
        | none => none
      | none => none
    | _ => none
  | .s (.d (.f2 a b r) F) => match args with
    | [x, y] => match x.dv cx s, y.dv cx s with
      | some v, some w => match castD v.t a v.x, castD w.t b w.x with
        | some p, some q => cond r.flat (some ⟨some ((F : Fun (a.D × b.D) r.D).pre (p, q)), .s (.d r ((F : Fun (a.D × b.D) r.D).val (p, q))), x.ids ++ y.ids, []⟩) none
        | _, _ => none
      | _, _ => none
    | _ => none
  | _ => none

/-- The arguments of a call, each with its type (for a bare nil). -/
def argAVs (E : TypeId → Operand → AV) : List Operand → List TypeId → List AV
  | [], _ => []
  | x :: r, [] => E 0 x :: argAVs E r []
  | x :: r, t :: ts => E t x :: argAVs E r ts

def builtinEff (cx : Cx) (s : ASt) (dst : Nat) (b : Builtin) (ts : List TypeId) (args : List AV) : Option Eff :=
  match b, args with
  | .len, [x] => match x.dv cx s, ts with
    | some ⟨.sl t, l⟩, [T] => match cx.ty T with
      | some (.sl _) => some ⟨none, .s (.d (.i .i64) (Z.len (l : List t.D))), x.ids, []⟩
      | _ => none
    | _, _ => none
  | .max, _ => match optAll (fun v => match asInt v with | some (.i64, n) => some n | _ => none) args with
    | some l => (maxInt l).bind fun n => ok (.s (.d (.i .i64) n))
    | none => none
  | .min, _ => match optAll (fun v => match asInt v with | some (.i64, n) => some n | _ => none) args with
    | some l => (minInt l).bind fun n => ok (.s (.d (.i .i64) n))
    | none => none
  | .append, [x, y] => match ts with
    | [T, T'] => cond (Nat.beq T T') (appendEff cx s dst T x y) none
    | _ => none
  | _, _ => none

def loadEff (cx : Cx) (s : ASt) (T : TypeId) (x : AV) : Option Eff :=
  match x with
  | .s (.d (.ref t) y) => match cx.ty T with
    | some t' => (castD t t' y).bind fun z => ok (.s (.d t' z))
    | none => none
  | .s (.ptr o q) => match s.obs o with
    | some (some (.bx _ t y)) => match getP t y q, cx.ty T with
      | some v, some t' => (castD v.t t' v.x).bind fun z => some ⟨none, .s (.d t' z), [o], []⟩
      | _, _ => none
    | some (some (.row _ _ t l)) => match q with
      | .x i :: q => match getP t (Z.getD l i t.z) q, cx.ty T with
        | some v, some t' => (castD v.t t' v.x).bind fun z => some ⟨none, .s (.d t' z), [o], []⟩
        | _, _ => none
      | _ => none
    | some (some (.bv v)) => match q with
      | [] => cond (cx.one T) (some ⟨none, v, [o], []⟩) none
      | _ => none
    | _ => none
  | _ => none

def storeEff (cx : Cx) (s : ASt) (T : TypeId) (x v : AV) : Option Eff :=
  match x with
  | .s (.ptr o q) => match s.obs o with
    | some (some (.bv _)) => match q with
      | [] => cond (cx.one T && v.one s) (some ⟨none, .un, o :: v.ids, [(o, some (.bv v))]⟩) none
      | _ => none
    | some (some (.bx false t y)) => match solid cx s [v] with
      | some ([w], ids, fz) => match setP t y q w, cx.ty T with
        | some z, some t' => cond (t'.beq w.t && !memN o (fz.map (·.1))) (some ⟨none, .un, o :: ids, (o, some (.bx false t z)) :: fz⟩) none
        | _, _ => none
      | _ => none
    | some (some (.row false e t l)) => match q with
      | .x i :: q => match solid cx s [v] with
        | some ([w], ids, fz) => match setP t (Z.getD l i t.z) q w, cx.ty T with
          | some z, some t' => cond (t'.beq w.t && !memN o (fz.map (·.1))) (some ⟨none, .un, o :: ids, (o, some (.row false e t (Z.set l i z))) :: fz⟩) none
          | _, _ => none
        | _ => none
      | _ => none
    | _ => none
  | _ => none

def addrField (s : ASt) (x : AV) (k : Nat) (t₀ : Option Ty) : Option Eff :=
  match t₀ with
  | some t₀ => match fieldPath t₀ k with
    | some q => match x with
      | .s (.d (.ref t) y) => match castD t t₀ y with
        | some y => match getP t₀ y q with
          | some v => ok (.s (.d (.ref v.t) v.x))
          | none => none
        | none => none
      | .s (.ptr o p) => match s.obs o with
        | some (some ob) => match obOff ob p with
          | some (_, t) => cond (t.beq t₀) (some ⟨none, .s (.ptr o (p ++ q)), [o], []⟩) none
          | none => none
        | _ => none
      | _ => none
    | none => none
  | none => none

def addrIndex (cx : Cx) (s : ASt) (T : TypeId) (x : AV) (i : Int) : Option Eff :=
  match cx.ty T with
  | some (.sl t) => match x with
    | .s (.os o) => match s.obs o with
      | some (some (.row _ _ t₁ l)) => cond (t₁.beq t) (some ⟨some (Z.inIx i (Z.len l)), .s (.ptr o [.x (Z.nat i)]), [o], []⟩) none
      | _ => none
    | .s (.d (.sl t') l) => match castD (.sl t') (.sl t) l with
      | some l => okO (Z.inIx i (Z.len (l : List t.D))) (.s (.d (.ref t) (Z.getD (l : List t.D) (Z.nat i) t.z)))
      | none => none
    | _ => none
  | some (.arr n t) => match x with
    | .s (.ptr o q) => match s.obs o with
      | some (some ob) => match obOff ob q with
        | some (_, t') => cond (t'.beq (.arr n t)) (some ⟨some (Z.inIx i (Z.ofN n)), .s (.ptr o (q ++ [.x (Z.nat i)])), [o], []⟩) none
        | none => none
      | _ => none
    | .s (.d (.ref t') l) => match castD t' (.arr n t) l with
      | some l => okO (Z.inIx i (Z.ofN n)) (.s (.d (.ref t) (Z.getD (l : List t.D) (Z.nat i) t.z)))
      | none => none
    | _ => none
  | _ => none

/-- A slice of a slice: all of it is data. -/
def sliceEff (cx : Cx) (s : ASt) (T : TypeId) (x : AV) (lo hi : Option Int) : Option Eff :=
  match cx.ty T, solid cx s [x] with
  | some (.sl t), some ([w], ids, fz) => match castD w.t (.sl t) w.x with
    | some l =>
      let l : List t.D := l
      match lo, hi with
      | none, some h => some ⟨some (Z.inTo h (Z.len l)), .s (.d (.sl t) (Z.take l (Z.nat h))), ids, fz⟩
      | some a, none => some ⟨some (Z.inTo a (Z.len l)), .s (.d (.sl t) (Z.drop l (Z.nat a))), ids, fz⟩
      | some a, some h => some ⟨some (Z.inTo2 a h (Z.len l)), .s (.d (.sl t) (Z.drop (Z.take l (Z.nat h)) (Z.nat a))), ids, fz⟩
      | none, none => some ⟨none, .s (.d (.sl t) l), ids, fz⟩
    | none => none
  | _, _ => none


def optInt (cx : Cx) (s : ASt) (g : List (Nat × Bool)) : Option Operand → Option (Option Int)
  | none => some none
  | some x => match asInt (ev cx s g 0 x) with
    | some (.i64, n) => some (some n)
    | _ => none

/-- Types whose equality is that of their data. -/
def Ty.key : Ty → Bool
  | .i _ => true
  | .bo => true
  | .u => true
  | .p a b => a.key && b.key
  | .st a => a.key
  | .arr _ t => t.key
  | _ => false
def mapTys (cx : Cx) (T : TypeId) (tk tv : Ty) : Bool :=
  match cx.mty T with
  | some (k, e) => match cx.ty k, cx.ty e with
    | some a, some b => (a.beq tk && b.beq tv) && (tk.key && (tv.zOk && Nat.ble tk.deep 9998))
    | _, _ => false
  | none => false
def keyTy (cx : Cx) (T : TypeId) : Nat := match cx.mty T with
  | some (k, _) => k
  | none => 0
def elemTy (cx : Cx) (T : TypeId) : Nat := match cx.mty T with
  | some (_, e) => e
  | none => 0
def makeMapEff (cx : Cx) (s : ASt) (d : Nat) (T : TypeId) : Option Eff :=
  match s.obs d, cx.mkm d with
  | none, some m => cond (mapTys cx T m.tk m.tv) (some ⟨none, .s (.mp d), [d], [(d, some (.mm m.tk m.tv m.inv))]⟩) none
  | _, _ => none
def mapUpdateEff (cx : Cx) (s : ASt) (T : TypeId) (m k v : AV) : Option Eff :=
  match m with
  | .s (.mp o) => match s.obs o with
    | some (some (.mm tk tv inv)) => match k.dv cx s, solid cx s [v] with
      | some x, some ([y], ids, fz) => match castD x.t tk x.x, castD y.t tv y.x with
        | some x, some y => cond (mapTys cx T tk tv) (some ⟨some (inv x y), .un, o :: (k.ids ++ ids), (o, some (.mm tk tv inv)) :: fz⟩) none
        | _, _ => none
      | _, _ => none
    | _ => none
  | _ => none

/-- What an operation does, under its guards. -/
def eff (cx : Cx) (s : ASt) (g : List (Nat × Bool)) (o : Oper) : Option Eff :=
  let E := ev cx s g
  match o.op, o.dst with
  | .move x, some _ => ok (E o.type x)
  | .assign x, some _ => ok (E o.type x)
  | .pick c a b, some _ => match c, asB (E 0 c) with
    | .tmp t, some x => match ev cx s ((t, true) :: g) o.type a, ev cx s ((t, false) :: g) o.type b with
      | .s (.d .bo y), .s (.d .bo z) => ok (.s (.d .bo (Z.bpick x y z)))
      | .s (.d (.i .i64) y), .s (.d (.i .i64) z) => ok (.s (.d (.i .i64) (Z.zpick x y z)))
      | _, _ => none
    | _, _ => none
  | .alloc T, some d => match s.obs d with
    | some _ => none
    | none => cond (memN d cx.bvs && cx.one T) (some ⟨none, .s (.ptr d []), [d], [(d, some (.bv (match cx.ty T with
        | some (.sl t) => .s (.nl (cx.el T) t)
        | _ => .un)))]⟩)
      (match zeroOf cx T with
       | some v => some ⟨none, .s (.ptr d []), [d], [(d, some (.bx false v.t v.x))]⟩
       | none => none)
  | .box T x, some d => match s.obs d with
    | some _ => none
    | none => cond (memN d cx.bvs && (E T x).one s) (some ⟨none, .s (.ptr d []), d :: (E T x).ids, [(d, some (.bv (E T x)))]⟩)
      (match cx.ty T, solid cx s [E T x] with
       | some t, some ([w], ids, fz) => match castD w.t t w.x with
         | some y => cond (memN d cx.mbx) (some ⟨none, .s (.ptr d []), d :: ids, (d, some (.bx false t y)) :: fz⟩) (some ⟨none, .s (.d (.ref t) y), d :: ids, fz⟩)
         | none => none
       | _, _ => none)
  | .build T parts, some _ => match zeroOf cx T, solid cx s (parts.toList.map fun x => E 0 x.2) with
    | some ⟨t, z⟩, some (vs, ids, fz) => match putParts t z ((parts.toList.map (·.1)).zip vs) with
      | some y => cond t.agg (some ⟨none, .s (.d t y), ids, fz⟩) none
      | none => none
    | _, _ => none
  | .buildSlice T n parts, some d => match s.obs d, cx.ty T, solid cx s (parts.toList.map fun x => E 0 x.2) with
    | none, some (.sl t), some (vs, ids, fz) => match putParts (.arr n t) (Z.rep n t.z) ((parts.toList.map (·.1)).zip vs) with
      | some l => cond (t.zOk && Nat.ble (n * t.n) 16777216) (cond g.isEmpty (some ⟨none, .s (.os d), d :: ids, (d, some (.row false (cx.el T) t l)) :: fz⟩) (some ⟨none, .s (.d (.sl t) l), d :: ids, fz⟩)) none
      | none => none
    | _, _, _ => none
  | .load T a, some _ => loadEff cx s T (E 0 a)
  | .makeMap T none, some d => makeMapEff cx s d T
  | .mapUpdate T m k v, none => mapUpdateEff cx s T (E T m) (E (keyTy cx T) k) (E (elemTy cx T) v)
  | .store T a v, none => storeEff cx s T (E 0 a) (E T v)
  | .binOp op T x y _, some _ => match E T x, E T y with
    | .s (.d (.i k) a), .s (.d (.i k') b) => match op with
      | .shl | .shr => match k with
        | .i64 => bits op a b
        | _ => none
      | .and | .or | .xor | .andNot => match k, k' with
        | .i64, .i64 => bits op a b
        | _, _ => none
      | _ => cond (ikBeq k k') (arith op k a b) none
    | .s (.d t a), .s (.d t' b) => match cx.ty T, castD t' t b with
      | some t₀, some b => cond (t₀.beq t && Nat.ble t.deep 9999) (match op, eqD t a b with
        | .eql, some r => ok (.s (.d .bo r))
        | .neq, some r => ok (.s (.d .bo (Z.bnot r)))
        | _, _ => none) none
      | _, _ => none
    | _, _ => none
  | .unOp op _ x, some _ => match op, E 0 x with
    | .not, .s (.d .bo a) => ok (.s (.d .bo (Z.bnot a)))
    | .neg, .s (.d (.i .i64) a) => okO (Z.in64 (Z.neg a)) (.s (.d (.i .i64) (Z.neg a)))
    | _, _ => none
  | .convert S T x, some _ => match E S x, cx.ty S, cx.ty T with
    | .s (.d (.i k) a), some _, some (.i k') => match k, k' with
      | .i64, .i64 => ok (.s (.d (.i .i64) a))
      | .u8, .i64 => ok (.s (.d (.i .i64) a))
      | .u16, .i64 => ok (.s (.d (.i .i64) a))
      | _, _ => ok (.s (.d (.i k') (Z.wrap k' a)))
    | _, _, _ => none
  | .makeFunc (.func f) first captured, some _ => match first.toList with
    | [] => match optAll (fun x => match E 0 x with | .s v => some v | _ => none) captured.toList with
      | some c => ok (.clo f c)
      | none => none
    | _ => none
  | .makeSlice T l c, some d => match s.obs d, cx.ty T, E 0 l, E 0 c with
    | none, some (.sl t), .s (.d (.i .i64) n), .s (.d (.i .i64) m) =>
      cond t.zOk (some ⟨some (Z.pAnd (Z.mk n m) (roomy t m)), .s (.os d), [d], [(d, some (.row false (cx.el T) t (Z.rep (Z.nat n) t.z)))]⟩) none
    | _, _, _, _ => none
  | .slice T x lo hi none, some _ => match optInt cx s g lo, optInt cx s g hi with
    | some a, some h => sliceEff cx s T (E T x) a h
    | _, _ => none
  | .fieldAddr T x k, some _ => addrField s (E 0 x) k (cx.ty T)
  | .field T x k, some _ => match E 0 x, cx.ty T with
    | .s (.d t y), some t' => match castD t t' y, fieldPath t' k with
      | some y, some q => (getP t' y q).bind fun v => ok (.s (.d v.t v.x))
      | _, _ => none
    | _, _ => none
  | .indexAddr T x i, some _ => match E 0 i with
    | .s (.d (.i .i64) n) => addrIndex cx s T (E T x) n
    | _ => none
  | .index T x i, some _ => match E 0 x, E 0 i, cx.ty T with
    | .s (.d t y), .s (.d (.i .i64) j), some (.arr n e) => match castD t (.arr n e) y with
      | some l => okO (Z.inIx j (Z.ofN n)) (.s (.d e (Z.getD (l : List e.D) (Z.nat j) e.z)))
      | none => none
    | _, _, _ => none
  | .extract x k, some _ => match E 0 x with
    | .tup l => (nth l k).bind fun v => ok (.s v)
    | _ => none
  | .call c, some d => match c.callee with
    | .builtin b => builtinEff cx s d b c.argTypes.toList (argAVs E c.args.toList c.argTypes.toList)
    | .value f => callVal cx s d (E 0 f) (argAVs E c.args.toList c.argTypes.toList)
    | _ => none
  | _, _ => none

/-! ### A region -/
def gCond (s : ASt) : List (Nat × Bool) → Option Prop
  | [] => none
  | (t, w) :: r =>
    let c : Prop := match (s.env t).v with
      | .s (.d .bo x) => cond w (Z.isT x) (Z.isF x)
      | _ => True
    match gCond s r with
    | none => some c
    | some c' => some (Z.pAnd c c')

/-- The guards under which an operation is carried out: its own, and those of the one that it hangs on. -/
def chain (s : ASt) (ops : Array Oper) (o : Oper) : Option (List (Nat × Bool)) :=
  match o.guard with
  | none => some []
  | some (j, w) => match (ops[j]?).bind (·.dst) with
    | some t => match (s.env t).v with
      | .s (.d .bo _) => some ((t, w) :: (s.env t).g)
      | _ => none
    | none => none

def put {α : Type} (f : Nat → α) (k : Nat) (v : α) : Nat → α := fun t => cond (Nat.beq t k) v (f t)
def puts {α : Type} (f : Nat → α) : List (Nat × α) → Nat → α
  | [] => f
  | (k, v) :: r => put (puts f r) k v

def ASt.app (s : ASt) (dst : Option Nat) (g : List (Nat × Bool)) (e : Eff) : ASt :=
  { env := match dst with
      | some d => put s.env d ⟨g, e.av⟩
      | none => s.env
    obs := puts s.obs (e.wr.map fun x => (x.1, some x.2)) }

structure Foot where
  g : List Nat
  rd : List Nat
  wr : List Nat

structure Run where
  obls : List Prop
  feet : List Foot
  s : ASt

/-- The objects that an operation may look at. -/
def behind (s : ASt) (o : Nat) : List Nat := match s.obs o with
  | some (some (.bv v)) => o :: v.ids
  | _ => [o]
def opIds (cx : Cx) (s : ASt) (g : List (Nat × Bool)) (o : Oper) : List Nat :=
  (match o.dst with | some d => [d] | none => []) ++ o.op.operands.toList.flatMap fun x => (ev cx s g 0 x).ids.flatMap (behind s)
/-- What is carried out under a guard changes no object. -/
def gwOk : List (Nat × Bool) → List (Nat × Option Ob) → Bool
  | _ :: _, _ :: _ => false
  | _, _ => true
def ntOk (nt : Nat) : Option Nat → Bool
  | some d => Nat.ble (d + 1) nt
  | none => true
def runOps (cx : Cx) (ops : Array Oper) : List Oper → ASt → Option Run
  | [], s => some ⟨[], [], s⟩
  | o :: rest, s => match chain s ops o with
    | none => none
    | some g => match eff cx s g o with
      | none => none
      | some e => cond (gwOk g e.wr && ntOk cx.nt o.dst) (match runOps cx ops rest (s.app o.dst g e) with
          | none => none
          | some r => some ⟨(match e.obl, gCond s g with
              | none, _ => r.obls
              | some p, none => p :: r.obls
              | some p, some c => (c → p) :: r.obls), ⟨g.map (·.1), opIds cx s g o, e.wr.map (·.1)⟩ :: r.feet, r.s⟩) none

def conj : List Prop → Prop → Prop
  | [], q => q
  | p :: r, q => p ∧ conj r q

/-- Behind a region what was yielded under a guard is forgotten. -/
def ASt.bare (s : ASt) : ASt := { s with env := fun t => match (s.env t).g with
  | [] => s.env t
  | _ => ⟨[], .un⟩ }

/-- Guards hang on operations before them, whose slots nobody else writes. -/
def dstAt (ops : Array Oper) (i : Nat) : Option Nat := (ops[i]?).bind (·.dst)
def guardAt (ops : Array Oper) (i : Nat) : Option (Nat × Bool) := (ops[i]?).bind (·.guard)
def guardsOk (ops : Array Oper) : Bool :=
  (List.range ops.size).all fun i => match guardAt ops i with
    | none => true
    | some (j, _) => Nat.ble (j + 1) i && match dstAt ops j with
      | some t => (List.range ops.size).all fun k => Nat.beq k j || match dstAt ops k with
        | some t' => !Nat.beq t t'
        | none => true
      | none => false

/-! Regions that draw their order. -/
def preds (o : Oper) (acc : List Nat) : Nat := o.after.toList.foldl (fun s e => if Region.binds .any e then s ||| 2 ^ e.on ||| acc.getD e.on 0 else s) 0
def befL : List Oper → List Nat → List Nat
  | [], acc => acc
  | o :: r, acc => befL r (acc ++ [preds o acc])
def tmpsOf : List Operand → List Nat
  | [] => []
  | .tmp t :: r => t :: tmpsOf r
  | _ :: r => tmpsOf r
def disj (a b : List Nat) : Bool := a.all fun x => !memN x b
/-- What an operation touches: slots that it reads (its guards' too), the slot that it writes, objects. -/
structure Touch where
  uses : List Nat
  dst : List Nat
  rd : List Nat
  wr : List Nat
def touchApart (a b : Touch) : Bool :=
  disj a.dst b.uses && (disj b.dst a.uses && (disj a.dst b.dst && (disj a.wr b.rd && (disj a.wr b.wr && disj b.wr a.rd))))
def touchOf (o : Oper) (f : Foot) : Touch :=
  ⟨f.g ++ tmpsOf o.op.operands.toList, match o.dst with | some d => [d] | none => [], f.rd, f.wr⟩
/-- Of two operations: whichever may come first, if they touch the same, is ordered; guards come first. -/
def drawOk (ops : Array Oper) (feet : List Foot) : Bool :=
  let bf := befL ops.toList []
  let ts := (ops.toList.zip feet).map fun x => touchOf x.1 x.2
  (List.range ops.size).all fun j =>
    (match guardAt ops j with | some (i, _) => (bf.getD j 0).testBit i | none => true) &&
    (match ops[j]? with | some o => o.after.toList.all fun e => !Region.binds .any e || Nat.ble (e.on + 1) j | none => true) &&
    (List.range j).all fun i => (bf.getD j 0).testBit i || touchApart (ts.getD i ⟨[], [], [], []⟩) (ts.getD j ⟨[], [], [], []⟩)

/-! Operations of which what they yield is not known ahead: in regions that are carried out in their order. -/
def lookupRel (cx : Cx) (s : ASt) (T : TypeId) (m k : AV) (Q : Eff → Prop) : Prop :=
  match m with
  | .s (.mp o) => match s.obs o with
    | some (some (.mm tk tv inv)) => match k.dv cx s with
      | some x => match castD x.t tk x.x with
        | some x => cond (mapTys cx T tk tv) ((∀ y, inv x y → Q ⟨none, .tup [.d tv y, .d .bo true], [], []⟩) ∧ Q ⟨none, .tup [.d tv tv.z, .d .bo false], [], []⟩) False
        | none => False
      | none => False
    | _ => False
  | _ => False
/-- What is yielded, of one value or of two. -/
def yArgs (two : Bool) (elt : Ty) (l : List Dv) : Option elt.D :=
  match two, elt, l with
  | false, t, [v] => castD v.t t v.x
  | true, .p a b, [v, w] => match castD v.t a v.x, castD w.t b w.x with
    | some x, some y => some (x, y)
    | _, _ => none
  | _, _, _ => none
def yTy (t : Ty) : Ty := .p (.sl t) .bo
def yieldRel (cx : Cx) (s : ASt) (y : YInfo) (ly : Nat) (args : List AV) (Q : Eff → Prop) : Prop :=
  match s.obs y.gid, solid cx s args with
  | some (some (.gh (.p (.sl t) .bo) x)), some (vs, ids, fz) => match castD (.sl t) (.sl y.elt) x.1, yArgs y.two y.elt vs with
    | some l, some e => cond (!memN y.gid (fz.map (·.1)))
      ((Z.same ly y.ly ∧ x.2 = false) ∧ ((∃ r, y.all = (l : List y.elt.D) ++ e :: r) ∧
        (Q ⟨none, .s (.d .bo true), ids, (y.gid, some (.gh (yTy y.elt) ((l : List y.elt.D) ++ [e], false))) :: fz⟩ ∧ Q ⟨none, .s (.d .bo false), ids, (y.gid, some (.gh (yTy y.elt) ((l : List y.elt.D) ++ [e], true))) :: fz⟩))) False
    | _, _ => False
  | _, _ => False
/-- A slice held against nil. -/
def nilRel (cx : Cx) (s : ASt) (T : TypeId) (x : AV) (Q : Eff → Prop) : Prop :=
  match cx.ty T, x.dv cx s with
  | some (.sl _), some ⟨.sl t, l⟩ => ((l : List t.D) = [] → Q ⟨none, .s (.d .bo true), [], []⟩) ∧ Q ⟨none, .s (.d .bo false), [], []⟩
  | _, _ => False
def isNil : Operand → Bool
  | .const (.slice none 0 0) => true
  | _ => false
def relEff (cx : Cx) (s : ASt) (o : Oper) : Option ((Eff → Prop) → Prop) :=
  let E := ev cx s []
  match o.op, o.dst with
  | .lookup T m k true, some _ => some (lookupRel cx s T (E T m) (E (keyTy cx T) k))
  | .call c, some _ => match c.callee, cx.yl with
    | .value f, some y => match E 0 f with
      | .yl ly => some (yieldRel cx s y ly (argAVs E c.args.toList c.argTypes.toList))
      | _ => none
    | _, _ => none
  | .binOp .eql T x y _, some _ => cond (isNil y) (some (nilRel cx s T (E T x))) none
  | _, _ => none
def vcSeq (cx : Cx) (ops : Array Oper) : List Oper → ASt → (ASt → Prop) → Prop
  | [], s, K => K s.bare
  | o :: r, s, K => match chain s ops o with
    | none => False
    | some g => match g, relEff cx s o with
      | [], some T => cond (ntOk cx.nt o.dst) (T fun e => vcSeq cx ops r (s.app o.dst [] e) K) False
      | g, _ => match eff cx s g o with
        | none => False
        | some e => cond (gwOk g e.wr && ntOk cx.nt o.dst) ((match e.obl, gCond s g with
              | none, _ => True
              | some p, none => p
              | some p, some c => (c → p)) ∧ vcSeq cx ops r (s.app o.dst g e) K) False
/-- Is there an operation that may be of the other kind? -/
def mayRel (cx : Cx) (ops : Array Oper) : Bool := ops.toList.any fun o => match o.op with
  | .lookup _ _ _ true => true
  | .call _ => match cx.yl with | some _ => true | none => false
  | .binOp .eql _ _ y _ => isNil y
  | _ => false

def vcRegion (cx : Cx) (ops : Array Oper) (draw : Bool) (s : ASt) (K : ASt → Prop) : Prop :=
  match runOps cx ops ops.toList s with
  | none => False
  | some r => cond (guardsOk ops && (!draw || drawOk ops r.feet)) (conj r.obls (K r.s.bare)) False

/-! ### Loops -/
inductive Shp where
  | d (t : Ty) | row (e : Nat) (t : Ty) | g (t : Ty)
@[reducible] def Shp.D : Shp → Type
  | .d t => t.D
  | .row _ t => List t.D
  | .g t => t.D
@[reducible] def Shps : List Shp → Type
  | [] => Unit
  | [a] => a.D
  | a :: b :: r => a.D × Shps (b :: r)

def Code.first : Code → Nat
  | .region i _ _ => i
  | .seq a _ => first a
  | .cond _ a _ => first a
  | .block _ a => first a
  | .loop a => first a
  | .scope a => first a
  | .rangeFunc _ _ a _ => first a
  | _ => 0

def Code.dsts : Code → List Nat
  | .region _ ops _ => ops.toList.filterMap (·.dst)
  | .seq a b => dsts a ++ dsts b
  | .cond _ a b => dsts a ++ dsts b
  | .block _ a => dsts a
  | .loop a => dsts a
  | .scope a => dsts a
  | .rangeFunc _ ps a b => ps.toList ++ (dsts a ++ dsts b)
  | _ => []

/-- The name, at a loop's head, of the row that a slot holds. -/
def hid (t : Nat) : Nat := 100000 + t

def slotShp (s : ASt) (t : Nat) (row : Bool) : Option Shp :=
  match row, (s.env t).v with
  | true, .s (.nl e t) => some (.row e t)
  | true, .s (.os o) => match s.obs o with
    | some (some (.row false e t _)) => some (.row e t)
    | _ => none
  | false, .s (.d t _) => some (.d t)
  | false, .s (.nl _ t) => some (.d (.sl t))
  | _, _ => none
def objShp (s : ASt) (o : Nat) : Option Shp :=
  match s.obs o with
  | some (some (.bx false t _)) => some (.d t)
  | some (some (.row false e t _)) => some (.row e t)
  | some (some (.gh t _)) => some (.g t)
  | _ => none
def shpsOf (s : ASt) (a : LoopAnn) : Option (List Shp) :=
  match optAll (fun x => slotShp s x.1 x.2) a.slots, optAll (objShp s) a.objs with
  | some x, some y => some (x ++ y)
  | _, _ => none

def slotVal (cx : Cx) (s : ASt) (t : Nat) : (h : Shp) → Option h.D
  | .row e₀ e => match (s.env t).v with
    | .s (.nl e₁ _) => cond (Nat.beq e₁ e₀) (some []) none
    | .s (.os o) => match s.obs o with
      | some (some (.row false e₁ e' l)) => cond (Nat.beq e₁ e₀) (castD (.sl e') (.sl e) l) none
      | _ => none
    | _ => none
  | .d e => match (s.env t).v.dv cx s with
    | some v => castD v.t e v.x
    | none => none
  | .g _ => none
def objVal (s : ASt) (o : Nat) : (h : Shp) → Option h.D
  | .d e => match s.obs o with
    | some (some (.bx false t x)) => castD t e x
    | _ => none
  | .row e₀ e => match s.obs o with
    | some (some (.row false e₁ e' l)) => cond (Nat.beq e₁ e₀) (castD (.sl e') (.sl e) l) none
    | _ => none
  | .g e => match s.obs o with
    | some (some (.gh t x)) => castD t e x
    | _ => none
/-- The loop's state, read off: first the slots, then the objects. -/
def collect (cx : Cx) (s : ASt) : List (Nat × Bool) → List Nat → (hs : List Shp) → Option (Shps hs)
  | [], [], [] => some ()
  | (t, _) :: [], [], [h] => slotVal cx s t h
  | [], o :: [], [h] => objVal s o h
  | (t, _) :: sl, ob, h :: h' :: r => match slotVal cx s t h, collect cx s sl ob (h' :: r) with
    | some x, some y => some (x, y)
    | _, _ => none
  | [], o :: ob, h :: h' :: r => match objVal s o h, collect cx s [] ob (h' :: r) with
    | some x, some y => some (x, y)
    | _, _ => none
  | _, _, _ => none

def putSlot (s : ASt) (t : Nat) : (h : Shp) → h.D → ASt
  | .d e, x => { s with env := put s.env t ⟨[], .s (.d e x)⟩ }
  | .row e₀ e, l => { env := put s.env t ⟨[], .s (.os (hid t))⟩, obs := put s.obs (hid t) (some (some (.row false e₀ e l))) }
  | .g _, _ => s
def putObj (s : ASt) (o : Nat) : (h : Shp) → h.D → ASt
  | .d e, x => { s with obs := put s.obs o (some (some (.bx false e x))) }
  | .row e₀ e, l => { s with obs := put s.obs o (some (some (.row false e₀ e l))) }
  | .g e, x => { s with obs := put s.obs o (some (some (.gh e x))) }
def spread (s : ASt) : List (Nat × Bool) → List Nat → (hs : List Shp) → Shps hs → ASt
  | (t, _) :: [], [], [h], x => putSlot s t h x
  | [], o :: [], [h], x => putObj s o h x
  | (t, _) :: sl, ob, h :: h' :: r, x => putSlot (spread s sl ob (h' :: r) x.2) t h x.1
  | [], o :: ob, h :: h' :: r, x => putObj (spread s [] ob (h' :: r) x.2) o h x.1
  | _, _, _, _ => s

/-- Does what is known of a value speak of these objects alone? -/
def SV.within (l : List Nat) : SV → Bool
  | .ptr o _ => memN o l
  | .os o => memN o l
  | .mp o => memN o l
  | _ => true
def AV.within (l : List Nat) : AV → Bool
  | .s v => v.within l
  | .clo _ c => c.all (SV.within l)
  | .tup c => c.all (SV.within l)
  | .un => true
  | .yl _ => true

/-- An object that is not kept is gone. -/
def dropOb : Option (Option Ob) → Option (Option Ob)
  | none => none
  | some _ => some none
/-- What is known at a loop's head of all that is not the loop's state. -/
def headBase (nt : Nat) (s : ASt) (a : LoopAnn) (ds : List Nat) : ASt :=
  { env := fun t => cond (memN t ds || (!(s.env t).v.within (a.objs ++ a.keep) || !Nat.ble (t + 1) nt)) ⟨[], .un⟩ (s.env t)
    obs := fun o => cond (memN o a.keep) (s.obs o) (dropOb (s.obs o)) }
/-- Objects that a loop may leave alone: what they hold speaks of the loop's own and of such objects. -/
def keepOk (s : ASt) (a : LoopAnn) : Bool := a.keep.all fun o => match s.obs o with
  | some (some (.bv v)) => v.within (a.objs ++ a.keep)
  | some (some (.gh _ _)) => false
  | some (some _) => true
  | _ => false

def slotId (s : ASt) (x : Nat × Bool) : List Nat := match x.2, (s.env x.1).v with
  | true, .s (.os o) => [o]
  | _, _ => []
def isUn : AV → Bool
  | .un => true
  | _ => false
/-- The loop's slots are written in it; no two of its rows are the same; what is yielded is of its state. -/
def annOk (yl : Option YInfo) (a : LoopAnn) (ds : List Nat) : Bool :=
  (match yl with | some y => memN y.gid a.objs | none => true) && (a.slots.all (fun x => memN x.1 ds && Nat.ble x.1 99998) && (nodupN (a.slots.map (·.1)) && nodupN ((a.slots.filter (·.2)).map (fun x => hid x.1) ++ (a.objs ++ a.keep))))
/-- The open rows that slots hold that the loop takes as data. -/
def dataIds (s : ASt) (x : Nat × Bool) : List Nat := match x.2 with
  | true => []
  | false => (s.env x.1).v.open? s
def entryOk (s : ASt) (a : LoopAnn) : Bool :=
  let l := a.slots.flatMap (slotId s) ++ (a.objs ++ a.keep)
  nodupN l && (a.slots.flatMap (dataIds s)).all fun o => !memN o l
/-- What was known at the head of slots that the loop does not write is known still. -/
def keptOk (nt : Nat) (ds : List Nat) (h s' : ASt) : Bool :=
  (List.range nt).all fun t => memN t ds || (isUn (h.env t).v || !isUn (s'.env t).v)

/-- An object that the rounds leave alone. -/
def sameOb : Option (Option Ob) → Option (Option Ob) → Option Prop
  | some (some (.bx f t x)), some (some (.bx f' t' x')) => match f == f', castD t' t x' with
    | true, some y => some (Z.same y x)
    | _, _ => none
  | some (some (.row f e t x)), some (some (.row f' e' t' x')) => match f == f' && Nat.beq e e', castD (.sl t') (.sl t) x' with
    | true, some y => some (Z.same (y : List t.D) x)
    | _, _ => none
  | some (some (.mm tk tv inv)), some (some (.mm tk' tv' inv')) => some (Z.same (MInv.mk tk' tv' inv') ⟨tk, tv, inv⟩)
  | some (some (.bv (.s v))), some (some (.bv (.s v'))) => eqSV v' v
  | some (some (.bv (.clo f c))), some (some (.bv (.clo f' c'))) => match Nat.beq f f', eqSVs c' c with
    | true, some l => some (allP l)
    | _, _ => none
  | _, _ => none
def sameObs (s s' : ASt) : List Nat → Option (List Prop)
  | [] => some []
  | o :: r => match s.obs o, sameObs s s' r with
    | some (some ob), some l => match sameOb (some (some ob)) (s'.obs o) with
      | some p => some (p :: l)
      | none => none
    | some (some _), none => none
    | _, l => l

/-- A round's parameters. -/
def putPs (two : Bool) (elt : Ty) (s : ASt) (ps : Array Nat) (e : elt.D) : ASt :=
  match two, elt, ps.toList with
  | false, t, [p] => { s with env := put s.env p ⟨[], .s (.d t e)⟩ }
  | true, .p a b, [p, q] => { s with env := put (put s.env p ⟨[], .s (.d a e.1)⟩) q ⟨[], .s (.d b e.2)⟩ }
  | _, _, _ => s
def psOk (nt : Nat) (two : Bool) (elt : Ty) (ps : List Nat) : Bool :=
  match two, elt, ps with
  | false, _, [p] => Nat.ble (p + 1) nt
  | true, .p _ _, [p, q] => (Nat.ble (p + 1) nt && Nat.ble (q + 1) nt) && !Nat.beq p q
  | _, _, _ => false
/-- The iterator rests on nothing that the rounds change. -/
def roundOk (nt : Nat) (s : ASt) (a : LoopAnn) (g : Operand) (ps : Array Nat) (two : Bool) (elt : Ty) : Bool :=
  psOk nt two elt ps.toList && (match g with
    | .tmp t => ((s.env t).v.open? s).isEmpty
    | _ => true)

def rangeDs (ps : Array Nat) (assign body : Code) : List Nat := ps.toList ++ (Code.dsts assign ++ Code.dsts body)

def vc (cx : Cx) : Code → ASt → (Exit → ASt → Prop) → Prop
  | .skip, s, Q => Q .normal s
  | .region _ ops d, s, Q => cond (!d && mayRel cx ops) (cond (guardsOk ops) (vcSeq cx ops ops.toList s (Q .normal)) False) (vcRegion cx ops d s (Q .normal))
  | .seq a b, s, Q => vc cx a s fun e s' => match e with
    | .normal => vc cx b s' Q
    | e => Q e s'
  | .cond c a b, s, Q => match asB (ev cx s [] 0 c) with
    | some x => (Z.isT x → vc cx a s Q) ∧ (Z.isF x → vc cx b s Q)
    | none => False
  | .block id c, s, Q => vc cx c s fun e s' => match e with
    | .exit i => cond (Nat.beq i id) (Q .normal s') (Q (.exit i) s')
    | e => Q e s'
  | .loop c, s, Q => match cx.ann (Code.first c) with
    | none => False
    | some a => match shpsOf s a with
      | none => False
      | some hs => match collect cx s a.slots a.objs hs with
        | none => False
        | some x₀ => cond (annOk cx.yl a (Code.dsts c) && (entryOk s a && keepOk s a)) (Z.LoopP x₀ fun x K =>
          let h := spread (headBase cx.nt s a (Code.dsts c)) a.slots a.objs hs x
          vc cx c h fun e s' => match e with
            | .normal => match collect cx s' a.slots a.objs hs, sameObs h s' a.keep with
              | some x', some l => cond (entryOk s' a && keptOk cx.nt (Code.dsts c) h s') (conj l (K x')) False
              | _, _ => False
            | e => Q e s') False
  | .exit id, s, Q => Q (.exit id) s
  | .scope c, s, Q => vc cx c s fun e s' => match e with
    | .goto _ => False
    | e => Q e s'
  | .label _, s, Q => Q .normal s
  | .ret, s, Q => Q .ret s
  | .rangeFunc g ps assign body, s, Q => match cx.yl, (ev cx s [] 0 g).dv cx s, cx.ann (Code.first assign) with
    | none, some ⟨.sq two elt, F⟩, some a => match a.slots, optAll (objShp s) a.objs with
      | [], some hs => match collect cx s [] a.objs hs with
        | none => False
        | some x₀ => cond (annOk none a (rangeDs ps assign body) && (entryOk s a && (keepOk s a && roundOk cx.nt s a g ps two elt)))
          ((F : Seq elt.D).pre ∧ Z.RangeP x₀ (F : Seq elt.D).val (fun e x K =>
            vc cx assign (putPs two elt (spread (headBase cx.nt s a (rangeDs ps assign body)) [] a.objs hs x) ps e) fun ex s₁ => match ex with
              | .normal => vc cx body s₁ fun ex s' => match collect cx s' [] a.objs hs, sameObs s s' a.keep with
                | some x', some l => cond (entryOk s' a && keptOk cx.nt (rangeDs ps assign body) (spread (headBase cx.nt s a (rangeDs ps assign body)) [] a.objs hs x) s') (conj l (match ex with
                  | .normal => K x'
                  | .ret => Q .ret (spread (headBase cx.nt s a (rangeDs ps assign body)) [] a.objs hs x')
                  | .exit i => Q (.exit i) (spread (headBase cx.nt s a (rangeDs ps assign body)) [] a.objs hs x')
                  | _ => False)) False
                | _, _ => False
              | _ => False) fun x => Q .normal (spread (headBase cx.nt s a (rangeDs ps assign body)) [] a.objs hs x)) False
      | _, _ => False
    | _, _, _ => False
  | _, _, _ => False

/-! ### A function -/
def initEnv : List SV → Nat → Ent
  | [], _ => ⟨[], .un⟩
  | v :: _, 0 => ⟨[], .s v⟩
  | _ :: l, k + 1 => initEnv l k
def resOf (cx : Cx) (s : ASt) : List ResultVar → Option (List AV)
  | [] => some []
  | .tmp t :: r => (resOf cx s r).map ((s.env t).v :: ·)
  | .cell t T :: r => match (s.env t).v with
    | .s (.ptr o []) => match s.obs o with
      | some (some (.bx _ ty x)) => cond (match cx.ty T with | some t' => t'.beq ty | none => false) ((resOf cx s r).map (.s (.d ty x) :: ·)) none
      | some (some (.bv v)) => cond (cx.one T) ((resOf cx s r).map (v :: ·)) none
      | _ => none
    | _ => none
/-- A function that is given data, and gives data. -/
def vcFun (cx : Cx) (fn : Func) (k : Con) (x : Ds k.args) : Prop :=
  match fn.body with
  | none => False
  | some c => vc cx c ⟨initEnv ((unDs k.args x).map fun v => .d v.t v.x), fun _ => none⟩ fun e s => match e with
    | .normal | .ret => match ((resOf cx s fn.results.toList).bind (optAll (AV.dv cx s))).bind (mkDs k.res) with
      | some y => Z.same y (k.val x)
      | none => False
    | _ => False
/-- What a callee that was lent objects has made of them. -/
def finK (s : ASt) (f : Nat) (caps : List SV) (m : MInv) : List AK → Nat → Option (List Dv × List Prop)
  | [], _ => some ([], [])
  | k :: r, i => match finK s f caps m r (i + 1) with
    | none => none
    | some (vs, ps) => match k with
      | .d _ => some (vs, ps)
      | .row _ _ => some (vs, ps)
      | .box _ => match s.obs (pid i) with
        | some (some (.bx false t x)) => some (⟨t, x⟩ :: vs, ps)
        | _ => none
      | .mem => match s.obs (pid i), s.obs (qid i) with
        | some (some (.bv (.s (.mp q)))), some (some (.mm tk tv inv)) => cond (Nat.beq q (qid i)) (some (vs, Z.same (MInv.mk tk tv inv) m :: ps)) none
        | _, _ => none
      | .self => match s.obs (pid i) with
        | some (some (.bv (.clo f' c))) => match Nat.beq f' f, eqSVs c caps with
          | true, some l => some (vs, l ++ ps)
          | _, _ => none
        | _ => none
/-- The objects behind such a call: rows are gone. -/
def cFin (f : Nat) (caps : List SV) (m : MInv) : List AK → Nat → List Dv → List (Nat × Ob)
  | .d _ :: r, i, vs => cFin f caps m r (i + 1) vs
  | .row _ _ :: r, i, vs => cFin f caps m r (i + 1) vs
  | .box _ :: r, i, ⟨t, x⟩ :: vs => (pid i, .bx false t x) :: cFin f caps m r (i + 1) vs
  | .mem :: r, i, vs => (pid i, .bv (.s (.mp (qid i)))) :: (qid i, .mm m.tk m.tv m.inv) :: cFin f caps m r (i + 1) vs
  | .self :: r, i, vs => (pid i, .bv (.clo f caps)) :: cFin f caps m r (i + 1) vs
  | _, _, _ => []
def lentIds : List AK → Nat → List Nat
  | [], _ => []
  | .d _ :: r, i => lentIds r (i + 1)
  | .row _ _ :: r, i => lentIds r (i + 1)
  | .box _ :: r, i => pid i :: lentIds r (i + 1)
  | .mem :: r, i => pid i :: qid i :: lentIds r (i + 1)
  | .self :: r, i => pid i :: lentIds r (i + 1)
def rowOf (s : ASt) (e : Nat) : AV → Option (Dv × List Nat)
  | .s (.nl e' t) => cond (Nat.beq e' e) (some (⟨.sl t, []⟩, [])) none
  | .s (.os o) => match s.obs o with
    | some (some (.row false e' t l)) => cond (Nat.beq e' e) (some (⟨.sl t, l⟩, [o])) none
    | _ => none
  | _ => none
def finL (cx : Cx) (s : ASt) (fn : Func) (f : Nat) (k : LCon) (x : Ds (AK.ins k.args)) : Prop :=
  match finK s f (k.caps x) (k.minv x) k.args 0, resOf cx s fn.results.toList with
  | some (bs, ps), some rs => match k.row with
    | none => match optAll (AV.dv cx s) rs with
      | some vs => cond (disjN (rs.flatMap (AV.open? s)) (lentIds k.args 0)) (match mkDs (k.res ++ AK.boxes k.args) (vs ++ bs) with
        | some y => conj ps (Z.same y (k.val x))
        | none => False) False
      | none => False
    | some e => match rs with
      | [r] => match rowOf s e r with
        | some (v, ids) => cond (disjN ids (lentIds k.args 0)) (match mkDs (k.res ++ AK.boxes k.args) (v :: bs) with
          | some y => conj ps (Z.same y (k.val x))
          | none => False) False
        | none => False
      | _ => False
  | _, _ => False
/-- A function that is lent objects. -/
def vcFunL (cx : Cx) (fn : Func) (f : Nat) (k : LCon) (x : Ds (AK.ins k.args)) : Prop :=
  match fn.body with
  | none => False
  | some c => cond ((k.caps x).all (SV.within (lentIds k.args 0))) (vc cx c ⟨initEnv (k.svs x), obsOf (k.obs f x)⟩ fun e s => match e with
    | .normal | .ret => finL cx s fn f k x
    | _ => False) False
/-- An iterator's state at its start. -/
def iterS {ts : List Ty} (gid : Nat) (ly : Nat) (elt : Ty) (x : Ds ts) : ASt :=
  ⟨fun t => match t with
    | 0 => ⟨[], .yl ly⟩
    | t + 1 => initEnv ((unDs ts x).map fun v => .d v.t v.x) t, fun o => cond (Nat.beq o gid) (some (some (.gh (yTy elt) ([], false)))) none⟩
/-- What an iterator has yielded at its end. -/
def iterQ (gid : Nat) (elt : Ty) (all : List elt.D) (s : ASt) : Prop :=
  match s.obs gid with
  | some (some (.gh (.p (.sl t) .bo) z)) => match castD (.sl t) (.sl elt) z.1 with
    | some l => z.2 = false → Z.same (l : List elt.D) all
    | none => False
  | _ => False
/-- An iterator: its first parameter is the rounds' function. -/
def vcIter (cx : Cx) (fn : Func) (k : ICon) (x : Ds k.args) : Prop :=
  match fn.body, cx.yl with
  | some c, some y => vc cx c (iterS y.gid y.ly y.elt x) fun e s => match e with
    | .normal | .ret => iterQ y.gid y.elt y.all s
    | _ => False
  | _, _ => False
end Go.Sx
