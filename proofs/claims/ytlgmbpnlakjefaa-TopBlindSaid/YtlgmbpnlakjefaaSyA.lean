/- A small evaluator of this session's own: abstract values, an abstract heap with literal numbers, and the weakest precondition of the model's code, reckoned by 'cbv'. Definitions alone. -/
import Derived.Calls
import Derived.Orders
namespace Go.Sy

/-! ### numbers and truths: literal, or hidden behind a function of nothing (which 'cbv' does not enter) -/
inductive IX | l (n : Int) | t (f : Unit → Int)
inductive BX | l (b : Bool) | t (f : Unit → Bool)
inductive NX | l (n : Nat) | t (f : Unit → Nat)
def IX.v : IX → Int | .l n => n | .t f => f ()
def BX.v : BX → Bool | .l n => n | .t f => f ()
def NX.v : NX → Nat | .l n => n | .t f => f ()

/-! ### data in rows -/
inductive Kd | int (k : IntKind) | bool | sl (sig : List Kd)
inductive D | i (n : Int) | b (b : Bool) | s (rows : List (List D))
def D.int : D → Int | .i n => n | _ => 0
def D.bool : D → Bool | .b x => x | _ => false
def D.rows : D → List (List D) | .s r => r | _ => []

inductive AV
  | undef
  | bool (b : BX)
  | int (k : IntKind) (n : IX)
  | nilp
  | ptr (b : Nat) (i f : NX)
  | nils
  | sl (b : Nat) (i f : NX) (esz : Nat) (len cap : NX) (ex : Bool)
  | ro (sig : List Kd) (l : Unit → List (List D))
  | nilf
  | func (fn : Fn) (first captured : List AV)
  | agg (cs : List AV)
  | arr (sig : List Kd) (l : Unit → List (List D))
  | tuple (vs : List AV)

inductive Cont
  | cells (l : List AV)
  | rows (sig : List Kd) (l : Unit → List (List D))
structure Obj where
  mt : Bool
  c : Cont
abbrev Heap := List (Option Obj)
structure St where
  t : List AV
  h : Heap

/-! ### lists -/
def nth {α : Type} : List α → Nat → Option α
  | [], _ => none
  | a :: _, 0 => some a
  | _ :: l, n + 1 => nth l n
def upd {α : Type} : List α → Nat → α → List α
  | [], _, _ => []
  | _ :: l, 0, b => b :: l
  | a :: l, n + 1, b => a :: upd l n b
def takeX {α : Type} : Nat → List α → Option (List α)
  | 0, _ => some []
  | _ + 1, [] => none
  | n + 1, a :: l => match takeX n l with | some r => some (a :: r) | none => none
def dropX {α : Type} : Nat → List α → Option (List α)
  | 0, l => some l
  | _ + 1, [] => none
  | n + 1, _ :: l => dropX n l
def part {α : Type} (l : List α) (off n : Nat) : Option (List α) :=
  match dropX off l with | some r => takeX n r | none => none
def putAt {α : Type} : List α → Nat → List α → Option (List α)
  | l, 0, [] => some l
  | [], 0, _ :: _ => none
  | _ :: l, 0, b :: bs => match putAt l 0 bs with | some r => some (b :: r) | none => none
  | [], _ + 1, _ => none
  | a :: l, n + 1, bs => match putAt l n bs with | some r => some (a :: r) | none => none
def len {α : Type} : List α → Nat
  | [] => 0
  | _ :: l => len l + 1

/-! ### nodes: where the reckoning stops and asks -/
inductive Chk (p : Unit → Prop) (K : Unit → Prop) : Prop
  | mk : p () → K () → Chk p K
inductive Br (b : Unit → Bool) (K L : Unit → Prop) : Prop
  | mk : (b () = true → K ()) → (b () = false → L ()) → Br b K L
inductive All {α : Type} (p : α → Unit → Prop) (K : α → Prop) : Prop
  | mk : (∀ x, p x () → K x) → All p K

def brB (b : BX) (K L : Unit → Prop) : Prop :=
  match b with
  | .l true => K ()
  | .l false => L ()
  | .t f => Br f K L

/-! ### arithmetic -/
def inR (k : IntKind) (n : Int) : Bool := decide (k.min ≤ n) && decide (n ≤ k.max)
/-- A result of kind k: of a signed kind it is asked that it fits; of an unsigned one it wraps. -/
def fit (k : IntKind) (r : IX) (K : AV → Prop) : Prop :=
  match r with
  | .l n => K (.int k (.l (k.wrap n)))
  | .t f => match k.signed with
    | true => Chk (fun _ => inR k (f ()) = true) fun _ => K (.int k (.t f))
    | false => K (.int k (.t fun _ => k.wrap (f ())))
/-! the arithmetic's own names: 'cbv' leaves them standing behind a function of nothing -/
def bnot (x : Bool) : Bool := !x
def beqv (x y : Bool) : Bool := x == y
def bboth (x y : Bool) : Bool := x && y
def ofN (n : Nat) : Int := n
def nadd (x y : Nat) : Nat := x + y
def nsub (x y : Nat) : Nat := x - y
def nmul (x y : Nat) : Nat := x * y
def mm (gt : Bool) (x y : Int) : Int := match gt with | true => if y > x then y else x | false => if y < x then y else x
def bitsI (op : BinOp) (k : IntKind) (x y : Int) : Int :=
  let a := BitVec.ofInt k.bits x
  let b := BitVec.ofInt k.bits y
  match op with
  | .and => k.wrap (a &&& b).toNat
  | .or => k.wrap (a ||| b).toNat
  | .xor => k.wrap (a ^^^ b).toNat
  | _ => k.wrap (a &&& ~~~b).toNat
def shlI (k : IntKind) (x y : Int) : Int := k.wrap (x * 2 ^ (min y.toNat k.bits))
def shrI (k : IntKind) (x y : Int) : Int := x.fdiv (2 ^ (min y.toNat k.bits))

inductive AOp | add | sub | mul | quo | rem | bits (op : BinOp) (k : IntKind) | shl (k : IntKind) | shr (k : IntKind) | mm (gt : Bool)
inductive COp | lt | le | gt | ge | eq | ne
def aop (o : AOp) (x y : Int) : Int :=
  match o with
  | .add => x + y
  | .sub => x - y
  | .mul => x * y
  | .quo => x.tdiv y
  | .rem => x.tmod y
  | .bits op k => bitsI op k x y
  | .shl k => shlI k x y
  | .shr k => shrI k x y
  | .mm gt => mm gt x y
def cop (o : COp) (x y : Int) : Bool :=
  match o with
  | .lt => decide (x < y)
  | .le => decide (x ≤ y)
  | .gt => decide (y < x)
  | .ge => decide (y ≤ x)
  | .eq => decide (x = y)
  | .ne => !decide (x = y)
def ix2 (g : AOp) (a b : IX) : IX :=
  match a with
  | .l x => match b with
    | .l y => .l (aop g x y)
    | .t y => .t fun _ => aop g x (y ())
  | .t x => match b with
    | .l y => .t fun _ => aop g (x ()) y
    | .t y => .t fun _ => aop g (x ()) (y ())
def bx2 (g : COp) (a b : IX) : BX :=
  match a with
  | .l x => match b with
    | .l y => .l (cop g x y)
    | .t y => .t fun _ => cop g x (y ())
  | .t x => match b with
    | .l y => .t fun _ => cop g (x ()) y
    | .t y => .t fun _ => cop g (x ()) (y ())
def eInt (op : BinOp) (k : IntKind) (a b : IX) (K : AV → Prop) : Prop :=
  match op with
  | .add => fit k (ix2 .add a b) K
  | .sub => fit k (ix2 .sub a b) K
  | .mul => fit k (ix2 .mul a b) K
  | .quo => match b with
    | .l y => match decide (y = 0) with
      | true => False
      | false => fit k (ix2 .quo a (.l y)) K
    | .t y => Chk (fun _ => y () ≠ 0) fun _ => fit k (ix2 .quo a (.t y)) K
  | .rem => match b with
    | .l y => match decide (y = 0) with
      | true => False
      | false => K (.int k (ix2 .rem a (.l y)))
    | .t y => Chk (fun _ => y () ≠ 0) fun _ => K (.int k (ix2 .rem a (.t y)))
  | .and => K (.int k (ix2 (.bits .and k) a b))
  | .or => K (.int k (ix2 (.bits .or k) a b))
  | .xor => K (.int k (ix2 (.bits .xor k) a b))
  | .andNot => K (.int k (ix2 (.bits .andNot k) a b))
  | .shl => match b with
    | .l y => match decide (0 ≤ y) with
      | true => K (.int k (ix2 (.shl k) a (.l y)))
      | false => False
    | .t y => Chk (fun _ => 0 ≤ y ()) fun _ => K (.int k (ix2 (.shl k) a (.t y)))
  | .shr => match b with
    | .l y => match decide (0 ≤ y) with
      | true => K (.int k (ix2 (.shr k) a (.l y)))
      | false => False
    | .t y => Chk (fun _ => 0 ≤ y ()) fun _ => K (.int k (ix2 (.shr k) a (.t y)))
  | .lss => K (.bool (bx2 .lt a b))
  | .leq => K (.bool (bx2 .le a b))
  | .gtr => K (.bool (bx2 .gt a b))
  | .geq => K (.bool (bx2 .ge a b))
  | .eql => K (.bool (bx2 .eq a b))
  | .neq => K (.bool (bx2 .ne a b))
def bNot : BX → BX
  | .l b => .l (!b)
  | .t f => .t fun _ => bnot (f ())
def bEq (a b : BX) : BX :=
  match a with
  | .l true => b
  | .l false => bNot b
  | .t x => match b with
    | .l true => .t x
    | .l false => .t fun _ => bnot (x ())
    | .t y => .t fun _ => beqv (x ()) (y ())
def bAnd (a b : BX) : BX :=
  match a with
  | .l true => b
  | .l false => .l false
  | .t x => match b with
    | .l true => .t x
    | .l false => .l false
    | .t y => .t fun _ => bboth (x ()) (y ())

/-- Two values without references, cell by cell. -/
def eqCell : AV → AV → Option BX
  | .int _ a, .int _ b => some (bx2 .eq a b)
  | .bool a, .bool b => some (bEq a b)
  | _, _ => none
def eqCells : List AV → List AV → Option BX
  | [], [] => some (.l true)
  | a :: l, b :: m => match eqCell a b with
    | some x => match eqCells l m with
      | some y => some (bAnd x y)
      | none => none
    | none => none
  | _, _ => none

/-! ### types -/
inductive TK | int (k : IntKind) | bool | slice (e : Nat) | array (n e : Nat) | struct (fs : List (Nat × Nat)) | ptr (e : Nat) | func | other
structure TD where
  k : TK
  size : Nat
  bytes : Nat
  zero : List AV
  /-- what a row of such elements is made of, where it is plain data -/
  sig : Option (List Kd)

abbrev Tab := Nat → Option TD
def tiL : List (Nat × TD) → Nat → Option TD
  | [], _ => none
  | p :: l, t => match Nat.beq p.1 t with | true => some p.2 | false => tiL l t
def ti (T : Tab) (t : Nat) : Option TD := T t
def TD.isAgg (d : TD) : Bool := match d.k with | .array .. => true | .struct .. => true | _ => false

/-! ### values and cells -/
def toD : AV → Option D
  | .int _ n => some (.i n.v)
  | .bool b => some (.b b.v)
  | .ro _ l => some (.s (l ()))
  | _ => none
def toDs : List AV → Option (List D)
  | [] => some []
  | a :: l => match toD a with
    | some d => match toDs l with | some r => some (d :: r) | none => none
    | none => none
/-- the cell of kind k that holds what 'd' says -/
def cellOf (k : Kd) (d : Unit → D) : AV :=
  match k with
  | .int q => .int q (.t fun _ => (d ()).int)
  | .bool => .bool (.t fun _ => (d ()).bool)
  | .sl sig => .ro sig fun _ => (d ()).rows
def cellsOf (d : Unit → List D) : List Kd → Nat → List AV
  | [], _ => []
  | k :: sig, j => cellOf k (fun _ => (d ()).getD j (.i 0)) :: cellsOf d sig (j + 1)
/-- a value's cells; an array's value is spread out where it is a literal number of rows -/
def flatAV : AV → Option (List AV)
  | .agg cs => some cs
  | .arr _ _ => none
  | .tuple _ => none
  | v => some [v]

def avC : Value → AV
  | .bool b => .bool (.l b)
  | .int k n => .int k (.l n)
  | .pointer none => .nilp
  | .slice none 0 0 => .nils
  | .nilFunc => .nilf
  | _ => .undef
def avK : Value → AV
  | .agg cs => .agg (cs.toList.map avC)
  | v => avC v
def ev (t : List AV) : Operand → AV
  | .tmp i => match nth t i with | some v => v | none => .undef
  | .const v => avK v
  | .func f => .func (.func f) [] []
  | .global _ => .undef

def nAdd (a b : NX) : NX :=
  match a with
  | .l 0 => b
  | .l x => match b with
    | .l y => .l (x + y)
    | .t y => .t fun _ => nadd x (y ())
  | .t x => match b with
    | .l 0 => .t x
    | .l y => .t fun _ => nadd (x ()) y
    | .t y => .t fun _ => nadd (x ()) (y ())
def nMul (a : NX) (e : Nat) : NX :=
  match e with
  | 1 => a
  | e => match a with
    | .l x => .l (x * e)
    | .t x => .t fun _ => nmul (x ()) e
def nSub (a b : NX) : NX :=
  match b with
  | .l 0 => a
  | .l y => match a with
    | .l x => .l (x - y)
    | .t x => .t fun _ => nsub (x ()) y
  | .t y => .t fun _ => nsub a.v (y ())
def natOf : IX → NX
  | .l n => .l n.toNat
  | .t f => .t fun _ => (f ()).toNat
def ofNat : NX → IX
  | .l n => .l n
  | .t f => .t fun _ => ofN (f ())
/-- 'a ≤ b' is asked. -/
def leN (a b : NX) (K : Unit → Prop) : Prop :=
  match a with
  | .l x => match Nat.beq x 0 with
    | true => K ()
    | false => match b with
      | .l y => match Nat.ble x y with | true => K () | false => False
      | .t y => Chk (fun _ => x ≤ y ()) K
  | .t x => Chk (fun _ => x () ≤ b.v) K
/-- '0 ≤ i < n' is asked. -/
def inN (i : IX) (n : NX) (K : Unit → Prop) : Prop :=
  match i with
  | .l x => match n with
    | .l y => match decide (0 ≤ x) with
      | true => match Nat.blt x.toNat y with | true => K () | false => False
      | false => False
    | .t y => Chk (fun _ => 0 ≤ x ∧ x < (y () : Int)) K
  | .t x => Chk (fun _ => 0 ≤ x () ∧ x () < (n.v : Int)) K
end Go.Sy
