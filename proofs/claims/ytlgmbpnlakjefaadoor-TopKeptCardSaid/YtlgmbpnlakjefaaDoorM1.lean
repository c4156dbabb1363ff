/- Put together by a program of this work out of its texts SyA, SyB. -/
import Derived.Calls
import Derived.Orders
section
/- A small evaluator of this session's own: abstract values, an abstract heap with literal numbers, and the weakest precondition of the model's code, reckoned by 'cbv'. Definitions alone. -/
namespace Go.Sy

/-! ### numbers and truths: literal, or hidden behind a function of nothing (which 'cbv' does not enter) -/
inductive IX | l (n : Int) | t (f : Unit → Int)
inductive BX | l (b : Bool) | t (f : Unit → Bool)
inductive NX | l (n : Nat) | t (f : Unit → Nat)
def IX.v : IX → Int | .l n => n | .t f => f ()
def BX.v : BX → Bool | .l n => n | .t f => f ()
def NX.v : NX → Nat | .l n => n | .t f => f ()

/-! ### data in rows -/
inductive Kd | int (k : IntKind) | bool | sl (sig : List Kd)
inductive D | i (n : Int) | b (b : Bool) | s (rows : List (List D))
def D.int : D → Int | .i n => n | _ => 0
def D.bool : D → Bool | .b x => x | _ => false
def D.rows : D → List (List D) | .s r => r | _ => []

inductive AV
  | undef
  | bool (b : BX)
  | int (k : IntKind) (n : IX)
  | nilp
  | ptr (b : Nat) (i f : NX)
  | nils
  | sl (b : Nat) (i f : NX) (esz : Nat) (len cap : NX) (ex : Bool)
  | ro (sig : List Kd) (l : Unit → List (List D))
  | nilf
  | func (fn : Fn) (first captured : List AV)
  | agg (cs : List AV)
  | arr (sig : List Kd) (l : Unit → List (List D))
  | tuple (vs : List AV)
  /-- a place in a package's own table -/
  | gp (g : Nat) (i : NX)

inductive Cont
  | cells (l : List AV)
  | rows (sig : List Kd) (l : Unit → List (List D))
structure Obj where
  mt : Bool
  c : Cont
abbrev Heap := List (Option Obj)
structure St where
  t : List AV
  h : Heap

/-- what the tables of packages hold that the row tells of -/
def gtab : Nat → Option (List Kd × List (List D)) := fun g => match Nat.beq g 0 with | true => some ([.int .u16, .int .i64, .int .i64], [[.i 0, .i 0, .i 0], [.i 19, .i 11, .i 1], [.i 465, .i 7, .i 2], [.i 1335, .i 5, .i 3]]) | false => none

/-! ### lists -/
def nth {α : Type} : List α → Nat → Option α
  | [], _ => none
  | a :: _, 0 => some a
  | _ :: l, n + 1 => nth l n
def upd {α : Type} : List α → Nat → α → List α
  | [], _, _ => []
  | _ :: l, 0, b => b :: l
  | a :: l, n + 1, b => a :: upd l n b
def takeX {α : Type} : Nat → List α → Option (List α)
  | 0, _ => some []
  | _ + 1, [] => none
  | n + 1, a :: l => match takeX n l with | some r => some (a :: r) | none => none
def dropX {α : Type} : Nat → List α → Option (List α)
  | 0, l => some l
  | _ + 1, [] => none
  | n + 1, _ :: l => dropX n l
def part {α : Type} (l : List α) (off n : Nat) : Option (List α) :=
  match dropX off l with | some r => takeX n r | none => none
def putAt {α : Type} : List α → Nat → List α → Option (List α)
  | l, 0, [] => some l
  | [], 0, _ :: _ => none
  | _ :: l, 0, b :: bs => match putAt l 0 bs with | some r => some (b :: r) | none => none
  | [], _ + 1, _ => none
  | a :: l, n + 1, bs => match putAt l n bs with | some r => some (a :: r) | none => none
def len {α : Type} : List α → Nat
  | [] => 0
  | _ :: l => len l + 1

/-! ### nodes: where the reckoning stops and asks -/
inductive Chk (p : Unit → Prop) (K : Unit → Prop) : Prop
  | mk : p () → K () → Chk p K
inductive Br (b : Unit → Bool) (K L : Unit → Prop) : Prop
  | mk : (b () = true → K ()) → (b () = false → L ()) → Br b K L
inductive All {α : Type} (p : α → Unit → Prop) (K : α → Prop) : Prop
  | mk : (∀ x, p x () → K x) → All p K

def brB (b : BX) (K L : Unit → Prop) : Prop :=
  match b with
  | .l true => K ()
  | .l false => L ()
  | .t f => Br f K L

/-! ### arithmetic -/
def inR (k : IntKind) (n : Int) : Bool := decide (k.min ≤ n) && decide (n ≤ k.max)
/-- A result of kind k: of a signed kind it is asked that it fits; of an unsigned one it wraps. -/
def fit (k : IntKind) (r : IX) (K : AV → Prop) : Prop :=
  match r with
  | .l n => K (.int k (.l (k.wrap n)))
  | .t f => match k.signed with
    | true => Chk (fun _ => inR k (f ()) = true) fun _ => K (.int k (.t f))
    | false => K (.int k (.t fun _ => k.wrap (f ())))
/-! the arithmetic's own names: 'cbv' leaves them standing behind a function of nothing -/
def bnot (x : Bool) : Bool := !x
def beqv (x y : Bool) : Bool := x == y
def bboth (x y : Bool) : Bool := x && y
def ofN (n : Nat) : Int := n
def nadd (x y : Nat) : Nat := x + y
def nsub (x y : Nat) : Nat := x - y
def nmul (x y : Nat) : Nat := x * y
def mm (gt : Bool) (x y : Int) : Int := match gt with | true => if y > x then y else x | false => if y < x then y else x
def bitsI (op : BinOp) (k : IntKind) (x y : Int) : Int :=
  let a := BitVec.ofInt k.bits x
  let b := BitVec.ofInt k.bits y
  match op with
  | .and => k.wrap (a &&& b).toNat
  | .or => k.wrap (a ||| b).toNat
  | .xor => k.wrap (a ^^^ b).toNat
  | _ => k.wrap (a &&& ~~~b).toNat
def shlI (k : IntKind) (x y : Int) : Int := k.wrap (x * 2 ^ (min y.toNat k.bits))
def shrI (k : IntKind) (x y : Int) : Int := x.fdiv (2 ^ (min y.toNat k.bits))

inductive AOp | add | sub | mul | quo | rem | bits (op : BinOp) (k : IntKind) | shl (k : IntKind) | shr (k : IntKind) | mm (gt : Bool)
inductive COp | lt | le | gt | ge | eq | ne
def aop (o : AOp) (x y : Int) : Int :=
  match o with
  | .add => x + y
  | .sub => x - y
  | .mul => x * y
  | .quo => x.tdiv y
  | .rem => x.tmod y
  | .bits op k => bitsI op k x y
  | .shl k => shlI k x y
  | .shr k => shrI k x y
  | .mm gt => mm gt x y
def cop (o : COp) (x y : Int) : Bool :=
  match o with
  | .lt => decide (x < y)
  | .le => decide (x ≤ y)
  | .gt => decide (y < x)
  | .ge => decide (y ≤ x)
  | .eq => decide (x = y)
  | .ne => !decide (x = y)
def ix2 (g : AOp) (a b : IX) : IX :=
  match a with
  | .l x => match b with
    | .l y => .l (aop g x y)
    | .t y => .t fun _ => aop g x (y ())
  | .t x => match b with
    | .l y => .t fun _ => aop g (x ()) y
    | .t y => .t fun _ => aop g (x ()) (y ())
def bx2 (g : COp) (a b : IX) : BX :=
  match a with
  | .l x => match b with
    | .l y => .l (cop g x y)
    | .t y => .t fun _ => cop g x (y ())
  | .t x => match b with
    | .l y => .t fun _ => cop g (x ()) y
    | .t y => .t fun _ => cop g (x ()) (y ())
def eInt (op : BinOp) (k : IntKind) (a b : IX) (K : AV → Prop) : Prop :=
  match op with
  | .add => fit k (ix2 .add a b) K
  | .sub => fit k (ix2 .sub a b) K
  | .mul => fit k (ix2 .mul a b) K
  | .quo => match b with
    | .l y => match decide (y = 0) with
      | true => False
      | false => fit k (ix2 .quo a (.l y)) K
    | .t y => Chk (fun _ => y () ≠ 0) fun _ => fit k (ix2 .quo a (.t y)) K
  | .rem => match b with
    | .l y => match decide (y = 0) with
      | true => False
      | false => K (.int k (ix2 .rem a (.l y)))
    | .t y => Chk (fun _ => y () ≠ 0) fun _ => K (.int k (ix2 .rem a (.t y)))
  | .and => K (.int k (ix2 (.bits .and k) a b))
  | .or => K (.int k (ix2 (.bits .or k) a b))
  | .xor => K (.int k (ix2 (.bits .xor k) a b))
  | .andNot => K (.int k (ix2 (.bits .andNot k) a b))
  | .shl => match b with
    | .l y => match decide (0 ≤ y) with
      | true => K (.int k (ix2 (.shl k) a (.l y)))
      | false => False
    | .t y => Chk (fun _ => 0 ≤ y ()) fun _ => K (.int k (ix2 (.shl k) a (.t y)))
  | .shr => match b with
    | .l y => match decide (0 ≤ y) with
      | true => K (.int k (ix2 (.shr k) a (.l y)))
      | false => False
    | .t y => Chk (fun _ => 0 ≤ y ()) fun _ => K (.int k (ix2 (.shr k) a (.t y)))
  | .lss => K (.bool (bx2 .lt a b))
  | .leq => K (.bool (bx2 .le a b))
  | .gtr => K (.bool (bx2 .gt a b))
  | .geq => K (.bool (bx2 .ge a b))
  | .eql => K (.bool (bx2 .eq a b))
  | .neq => K (.bool (bx2 .ne a b))
def bNot : BX → BX
  | .l b => .l (!b)
  | .t f => .t fun _ => bnot (f ())
def bEq (a b : BX) : BX :=
  match a with
  | .l true => b
  | .l false => bNot b
  | .t x => match b with
    | .l true => .t x
    | .l false => .t fun _ => bnot (x ())
    | .t y => .t fun _ => beqv (x ()) (y ())
def bAnd (a b : BX) : BX :=
  match a with
  | .l true => b
  | .l false => .l false
  | .t x => match b with
    | .l true => .t x
    | .l false => .l false
    | .t y => .t fun _ => bboth (x ()) (y ())

/-- Two values without references, cell by cell. -/
def eqCell : AV → AV → Option BX
  | .int _ a, .int _ b => some (bx2 .eq a b)
  | .bool a, .bool b => some (bEq a b)
  | _, _ => none
def eqCells : List AV → List AV → Option BX
  | [], [] => some (.l true)
  | a :: l, b :: m => match eqCell a b with
    | some x => match eqCells l m with
      | some y => some (bAnd x y)
      | none => none
    | none => none
  | _, _ => none

/-! ### types -/
inductive TK | int (k : IntKind) | bool | slice (e : Nat) | array (n e : Nat) | struct (fs : List (Nat × Nat)) | ptr (e : Nat) | func | str | other
structure TD where
  k : TK
  size : Nat
  bytes : Nat
  zero : List AV
  /-- what a row of such elements is made of, where it is plain data -/
  sig : Option (List Kd)

abbrev Tab := Nat → Option TD
def tiL : List (Nat × TD) → Nat → Option TD
  | [], _ => none
  | p :: l, t => match Nat.beq p.1 t with | true => some p.2 | false => tiL l t
def ti (T : Tab) (t : Nat) : Option TD := T t
def TD.isAgg (d : TD) : Bool := match d.k with | .array .. => true | .struct .. => true | _ => false

/-! ### values and cells -/
def toD : AV → Option D
  | .int _ n => some (.i n.v)
  | .bool b => some (.b b.v)
  | .ro _ l => some (.s (l ()))
  | _ => none
def toDs : List AV → Option (List D)
  | [] => some []
  | a :: l => match toD a with
    | some d => match toDs l with | some r => some (d :: r) | none => none
    | none => none
/-- the cell of kind k that holds what 'd' says -/
def cellOf (k : Kd) (d : Unit → D) : AV :=
  match k with
  | .int q => .int q (.t fun _ => (d ()).int)
  | .bool => .bool (.t fun _ => (d ()).bool)
  | .sl sig => .ro sig fun _ => (d ()).rows
def cellsOf (d : Unit → List D) : List Kd → Nat → List AV
  | [], _ => []
  | k :: sig, j => cellOf k (fun _ => (d ()).getD j (.i 0)) :: cellsOf d sig (j + 1)
/-- a value's cells; an array's value is spread out where it is a literal number of rows -/
def flatAV : AV → Option (List AV)
  | .agg cs => some cs
  | .arr _ _ => none
  | .tuple _ => none
  | v => some [v]

def avC : Value → AV
  | .bool b => .bool (.l b)
  | .int k n => .int k (.l n)
  | .pointer none => .nilp
  | .slice none 0 0 => .nils
  | .nilFunc => .nilf
  | _ => .undef
def avK : Value → AV
  | .agg cs => .agg (cs.toList.map avC)
  | v => avC v
def ev (t : List AV) : Operand → AV
  | .tmp i => match nth t i with | some v => v | none => .undef
  | .const v => avK v
  | .func f => .func (.func f) [] []
  | .global g => match gtab g with | some _ => .gp g (.l 0) | none => .undef

def nAdd (a b : NX) : NX :=
  match a with
  | .l 0 => b
  | .l x => match b with
    | .l y => .l (x + y)
    | .t y => .t fun _ => nadd x (y ())
  | .t x => match b with
    | .l 0 => .t x
    | .l y => .t fun _ => nadd (x ()) y
    | .t y => .t fun _ => nadd (x ()) (y ())
def nMul (a : NX) (e : Nat) : NX :=
  match e with
  | 1 => a
  | e => match a with
    | .l x => .l (x * e)
    | .t x => .t fun _ => nmul (x ()) e
def nSub (a b : NX) : NX :=
  match b with
  | .l 0 => a
  | .l y => match a with
    | .l x => .l (x - y)
    | .t x => .t fun _ => nsub (x ()) y
  | .t y => .t fun _ => nsub a.v (y ())
def natOf : IX → NX
  | .l n => .l n.toNat
  | .t f => .t fun _ => (f ()).toNat
def ofNat : NX → IX
  | .l n => .l n
  | .t f => .t fun _ => ofN (f ())
/-- 'a ≤ b' is asked. -/
def leN (a b : NX) (K : Unit → Prop) : Prop :=
  match a with
  | .l x => match Nat.beq x 0 with
    | true => K ()
    | false => match b with
      | .l y => match Nat.ble x y with | true => K () | false => False
      | .t y => Chk (fun _ => x ≤ y ()) K
  | .t x => Chk (fun _ => x () ≤ b.v) K
/-- '0 ≤ i < n' is asked. -/
def inN (i : IX) (n : NX) (K : Unit → Prop) : Prop :=
  match i with
  | .l x => match n with
    | .l y => match decide (0 ≤ x) with
      | true => match Nat.blt x.toNat y with | true => K () | false => False
      | false => False
    | .t y => Chk (fun _ => 0 ≤ x ∧ x < (y () : Int)) K
  | .t x => Chk (fun _ => 0 ≤ x () ∧ x () < (n.v : Int)) K
end Go.Sy
end

section
/- The evaluator: operations, calls by contract, regions in whatever order Go leaves open, code, loops. Definitions alone. -/
namespace Go.Sy

/-! ### references -/
def memN : List Nat → Nat → Bool
  | [], _ => false
  | a :: l, n => match Nat.beq a n with | true => true | false => memN l n
def addN (acc : List Nat) (b : Nat) : List Nat := match memN acc b with | true => acc | false => acc ++ [b]
mutual
def refsV (acc : List Nat) : AV → List Nat
  | .ptr b _ _ => addN acc b
  | .sl b _ _ _ _ _ _ => addN acc b
  | .func _ fs cs => refsL (refsL acc fs) cs
  | .agg cs => refsL acc cs
  | .tuple cs => refsL acc cs
  | _ => acc
def refsL (acc : List Nat) : List AV → List Nat
  | [] => acc
  | a :: l => refsL (refsV acc a) l
end
def refsO (h : Heap) (acc : List Nat) (b : Nat) : List Nat :=
  match nth h b with
  | some (some o) => match o.c with | .cells l => refsL acc l | .rows _ _ => acc
  | _ => acc
/-- from the i-th one on, what each leads to, too -/
def reach (h : Heap) : Nat → Nat → List Nat → List Nat
  | 0, _, acc => acc
  | n + 1, i, acc => match nth acc i with
    | some b => reach h n (i + 1) (refsO h acc b)
    | none => acc
def posN : List Nat → Nat → Nat → Option Nat
  | [], _, _ => none
  | a :: l, n, i => match Nat.beq a n with | true => some i | false => posN l n (i + 1)
mutual
def renV (r : Nat → Option Nat) : AV → AV
  | .ptr b i f => match r b with | some c => .ptr c i f | none => .undef
  | .sl b i f e n c x => match r b with | some d => .sl d i f e n c x | none => .undef
  | .func fn fs cs => .func fn (renL r fs) (renL r cs)
  | .agg cs => .agg (renL r cs)
  | .tuple cs => .tuple (renL r cs)
  | .undef => .undef
  | .bool b => .bool b
  | .int k n => .int k n
  | .nilp => .nilp
  | .nils => .nils
  | .ro s l => .ro s l
  | .nilf => .nilf
  | .arr s l => .arr s l
  | .gp g i => .gp g i
def renL (r : Nat → Option Nat) : List AV → List AV
  | [] => []
  | a :: l => renV r a :: renL r l
end
def renO (r : Nat → Option Nat) (o : Obj) : Obj :=
  match o.c with
  | .cells l => ⟨o.mt, .cells (renL r l)⟩
  | .rows s l => ⟨o.mt, .rows s l⟩
def renH (r : Nat → Option Nat) (o : Option (Option Obj)) : Option Obj :=
  match o with
  | some (some o) => some (renO r o)
  | _ => none
def mapH (r : Nat → Option Nat) (h : Heap) : List Nat → Heap
  | [] => []
  | b :: l => renH r (nth h b) :: mapH r h l
def iota : Nat → Nat → List Nat
  | 0, _ => []
  | n + 1, i => i :: iota n (i + 1)

/-! ### a value and its cells -/
def len2 {α : Type} (l : List α) : Nat := len l
def dOf : AV → D
  | .int _ n => .i n.v
  | .bool b => .b b.v
  | .ro _ l => .s (l ())
  | _ => .i 0
def dsOf : List AV → List D
  | [] => []
  | a :: l => dOf a :: dsOf l
def kdOf : AV → Option Kd
  | .int k _ => some (.int k)
  | .bool _ => some .bool
  | _ => none
def kdsOf : List AV → Option (List Kd)
  | [] => some []
  | a :: l => match kdOf a with
    | some k => match kdsOf l with | some r => some (k :: r) | none => none
    | none => none
def kEq : IntKind → IntKind → Bool
  | .i8, .i8 => true | .i16, .i16 => true | .i32, .i32 => true | .i64, .i64 => true
  | .u8, .u8 => true | .u16, .u16 => true | .u32, .u32 => true | .u64, .u64 => true
  | _, _ => false
def kdEq : Kd → Kd → Bool
  | .int a, .int b => kEq a b
  | .bool, .bool => true
  | _, _ => false
def sigEq : List Kd → List Kd → Bool
  | [], [] => true
  | a :: l, b :: m => match kdEq a b with | true => sigEq l m | false => false
  | _, _ => false
/-- cells of plain data, by the signature again and again -/
def fits (sig : List Kd) : Nat → List AV → Bool
  | 0, [] => true
  | 0, _ :: _ => false
  | n + 1, cs => match part cs 0 (len sig) with
    | some r => match kdsOf r with
      | some q => match sigEq q sig with
        | true => match dropX (len sig) cs with | some rest => fits sig n rest | none => false
        | false => false
      | none => false
    | none => false
/-- cells, cut into rows of m -/
def rowsOf (m : Nat) : Nat → List AV → List (List D)
  | 0, _ => []
  | n + 1, cs => dsOf (cs.take m) :: rowsOf m n (cs.drop m)
def spread (sig : List Kd) (l : Unit → List (List D)) : Nat → Nat → List AV
  | 0, _ => []
  | n + 1, j => cellsOf (fun _ => (l ()).getD j []) sig 0 ++ spread sig l n (j + 1)
def scal : AV → Bool
  | .undef => false | .agg _ => false | .arr _ _ => false | .tuple _ => false
  | _ => true
def allScal : List AV → Bool
  | [] => true
  | a :: l => match scal a with | true => allScal l | false => false
/-- the cells of a value of a type -/
def cellsV (T : Tab) (t : Nat) (v : AV) (K : List AV → Prop) : Prop :=
  match ti T t with
  | some d => match v with
    | .agg cs => match Nat.beq (len cs) d.size with
      | true => match d.isAgg with
        | true => match allScal cs with | true => K cs | false => False
        | false => False
      | false => False
    | .arr sig l => match d.k with
      | .array n _ => match Nat.beq (n * len sig) d.size with
        | true => Chk (fun _ => (l ()).length = n) fun _ => K (spread sig l n 0)
        | false => False
      | _ => False
    | v => match scal v with
      | true => match Nat.beq d.size 1 with
        | true => match d.isAgg with | true => False | false => K [v]
        | false => False
      | false => False
  | none => False
/-- a value of an array's type as rows of a signature -/
def asRows (sig : List Kd) (n : Nat) (v : AV) (K : (Unit → List (List D)) → Prop) : Prop :=
  match v with
  | .agg cs => match fits sig n cs with | true => K fun _ => rowsOf (len sig) n cs | false => False
  | .arr s l => match sigEq s sig with
    | true => Chk (fun _ => (l ()).length = n) fun _ => K l
    | false => False
  | _ => False
/-- what a variable of a type holds at first, or is made of -/
def contOf (T : Tab) (t : Nat) (v : AV) (K : Cont → Prop) : Prop :=
  match ti T t with
  | some d => match d.k, d.sig with
    | .array n _, some sig => match Nat.blt 0 (len sig) with
      | true => asRows sig n v fun l => K (.rows sig l)
      | false => False
    | _, _ => cellsV T t v fun cs => K (.cells cs)
  | none => False

/-! ### what an operation has touched -/
inductive Tch | obj (b : Nat) | cel (b f n : Nat)
def Tch.clash : Tch → Tch → Bool
  | .obj a, .obj b => Nat.beq a b
  | .obj a, .cel b _ _ => Nat.beq a b
  | .cel a _ _, .obj b => Nat.beq a b
  | .cel a f n, .cel b g m => match Nat.beq a b with
    | true => match Nat.ble (f + n) g with
      | true => false
      | false => match Nat.ble (g + m) f with | true => false | false => true
    | false => false

/-! ### memory -/
def push (h : Heap) (o : Obj) (K : Nat → Heap → Prop) : Prop := K (len h) (h ++ [some o])
/-- one of n cells of a kind, from lo on: the proof says which -/
def cellAny (l : List AV) (lo n : Nat) (f : Unit → Nat) (K : AV → Prop) : Prop :=
  match part l lo n with
  | some cs => match cs with
    | c :: _ => match kdOf c with
      | some k => match fits [k] n cs with
        | true => Chk (fun _ => lo ≤ f () ∧ f () < lo + n) fun _ => K (cellOf k fun _ => ((rowsOf 1 n cs).getD (nsub (f ()) lo) []).getD 0 (.i 0))
        | false => False
      | none => False
    | [] => False
  | none => False
def eLoad (T : Tab) (t : Nat) (a : AV) (h : Heap) (K : AV → Tch → Prop) : Prop :=
  match a with
  | .ptr b i f => match nth h b with
    | some (some o) => match ti T t with
      | some d => match o.c with
        | .cells l => match i with
          | .l 0 => match f with
            | .l f => match d.isAgg with
              | true => match part l f d.size with | some cs => K (.agg cs) (.cel b f d.size) | none => False
              | false => match nth l f with | some v => K v (.cel b f 1) | none => False
            | .t f => match d.isAgg with
              | true => False
              | false => ∃ lo n, cellAny l lo n f fun v => K v (.cel b lo n)
          | _ => False
        | .rows sig l => match f with
          | .l j => match d.isAgg with
            | false => match nth sig j with
              | some k => inN (ofNat i) (.t fun _ => (l ()).length) fun _ => K (cellOf k fun _ => ((l ()).getD i.v []).getD j (.i 0)) (.obj b)
              | none => False
            | true => match j with
              | 0 => match d.k with
                | .array n _ => match i with
                  | .l 0 => Chk (fun _ => (l ()).length = n) fun _ => match Nat.beq d.size (n * len sig) with | true => K (.arr sig l) (.obj b) | false => False
                  | _ => False
                | _ => match Nat.beq d.size (len sig) with
                  | true => inN (ofNat i) (.t fun _ => (l ()).length) fun _ => K (.agg (cellsOf (fun _ => (l ()).getD i.v []) sig 0)) (.obj b)
                  | false => False
              | _ => False
          | .t _ => False
      | none => False
    | _ => False
  | _ => False
def eStore (T : Tab) (t : Nat) (a v : AV) (h : Heap) (K : Heap → Tch → Prop) : Prop :=
  match a with
  | .ptr b i f => match nth h b with
    | some (some o) => match o.mt with
      | true => match ti T t with
        | some d => match o.c with
          | .cells l => match i with
            | .l 0 => match f with
              | .l f => cellsV T t v fun cs => match putAt l f cs with
                | some l' => K (upd h b (some ⟨true, .cells l'⟩)) (.cel b f d.size)
                | none => False
              | .t _ => False
            | _ => False
          | .rows sig l => match f with
            | .l j => match d.isAgg with
              | false => match nth sig j with
                | some k => match kdOf v with
                  | some k' => match kdEq k' k with
                    | true => inN (ofNat i) (.t fun _ => (l ()).length) fun _ =>
                        K (upd h b (some ⟨true, .rows sig fun _ => (l ()).set i.v (((l ()).getD i.v []).set j (dOf v))⟩)) (.obj b)
                    | false => False
                  | none => False
                | none => False
              | true => match j with
                | 0 => match d.k with
                  | .array n _ => match i with
                    | .l 0 => match Nat.beq d.size (n * len sig) with
                      | true => Chk (fun _ => (l ()).length = n) fun _ => asRows sig n v fun l' => K (upd h b (some ⟨true, .rows sig l'⟩)) (.obj b)
                      | false => False
                    | _ => False
                  | _ => match Nat.beq d.size (len sig) with
                    | true => asRows sig 1 v fun l' => inN (ofNat i) (.t fun _ => (l ()).length) fun _ =>
                        K (upd h b (some ⟨true, .rows sig fun _ => (l ()).set i.v ((l' ()).getD 0 [])⟩)) (.obj b)
                    | false => False
                | _ => False
            | .t _ => False
        | none => False
      | false => False
    | _ => False
  | _ => False

/-! ### plain operations: no memory is read or changed -/
def fillA (T : Tab) (place : Nat → Option (Nat × Nat)) (cs : List AV) : List (Nat × AV) → (List AV → Prop) → Prop
  | [], K => K cs
  | p :: rest, K => match place p.1 with
    | some q => cellsV T q.2 p.2 fun vs => match putAt cs q.1 vs with
      | some cs' => fillA T place cs' rest K
      | none => False
    | none => False
def fieldAt (T : Tab) (s fi : Nat) (K : Nat → Nat → Prop) : Prop :=
  match ti T s with
  | some d => match d.k with
    | .struct fs => match nth fs fi with | some p => K p.1 p.2 | none => False
    | _ => False
  | none => False
/-- the part of some cells from an offset on that is of a type -/
def partV (T : Tab) (t : Nat) (cs : List AV) (off : Nat) (K : AV → Prop) : Prop :=
  match ti T t with
  | some d => match d.isAgg with
    | true => match part cs off d.size with | some r => K (.agg r) | none => False
    | false => match nth cs off with | some v => K v | none => False
  | none => False
def ePick (c : BX) (a b : AV) (K : AV → Prop) : Prop :=
  match c with
  | .l true => K a
  | .l false => K b
  | .t f => match a with
    | .bool x => match b with
      | .bool y => K (.bool (.t fun _ => match f () with | true => x.v | false => y.v))
      | _ => Br f (fun _ => K a) fun _ => K b
    | _ => Br f (fun _ => K a) fun _ => K b
def eBin (T : Tab) (op : BinOp) (t : Nat) (x y : AV) (K : AV → Prop) : Prop :=
  match x with
  | .int k a => match y with
    | .int k' b => match op with
      | .shl => eInt .shl k a b K
      | .shr => eInt .shr k a b K
      | op => match kEq k k' with | true => eInt op k a b K | false => False
    | _ => False
  | .bool a => match y with
    | .bool b => match ti T t with
      | some d => match d.k with
        | .bool => match op with
          | .eql => K (.bool (bEq a b))
          | .neq => K (.bool (bNot (bEq a b)))
          | _ => False
        | _ => False
      | none => False
    | _ => False
  | _ => False
def eUn (op : UnOp) (x : AV) (K : AV → Prop) : Prop :=
  match op with
  | .not => match x with | .bool b => K (.bool (bNot b)) | _ => False
  | .neg => match x with | .int k n => fit k (ix2 .sub (.l 0) n) K | _ => False
  | .xor => match x with | .int k n => K (.int k (ix2 (.bits .xor k) (.l (match k.signed with | true => -1 | false => k.max)) n)) | _ => False
  | _ => False
/-- a conversion between whole numbers: wide enough, or it wraps -/
def kWide : IntKind → IntKind → Bool
  | .u8, .u16 => true | .u8, .u32 => true | .u8, .u64 => true | .u8, .i64 => true | .u8, .i32 => true | .u8, .i16 => true
  | .u16, .u32 => true | .u16, .u64 => true | .u16, .i64 => true | .u16, .i32 => true
  | .u32, .u64 => true | .u32, .i64 => true | .i8, .i64 => true | .i16, .i64 => true | .i32, .i64 => true
  | _, _ => false
def eConv (dst : IntKind) (n : IX) (K : AV → Prop) : Prop :=
  match n with
  | .l n => K (.int dst (.l (dst.wrap n)))
  | .t f => K (.int dst (.t fun _ => dst.wrap (f ())))
def esz (T : Tab) (t : Nat) (K : Nat → Prop) : Prop := match ti T t with | some d => K d.size | none => False

/-- the address of an element -/
def eIndexAddr (T : Tab) (t : Nat) (x : AV) (ix : IX) (h : Heap) (K : AV → Prop) : Prop :=
  match ti T t with
  | some d => match d.k with
    | .array n e => match x with
      | .ptr b i f => esz T e fun z => inN ix (.l n) fun _ => match nth h b with
        | some (some o) => match o.c with
          | .cells _ => K (.ptr b i (nAdd f (nMul (natOf ix) z)))
          | .rows sig _ => match f with
            | .l 0 => match Nat.beq (len sig) z with | true => K (.ptr b (nAdd i (natOf ix)) (.l 0)) | false => False
            | _ => False
        | _ => False
      | _ => False
    | .slice e => match x with
      | .sl b i f z n _ _ => esz T e fun z' => match Nat.beq z z' with
        | true => inN ix n fun _ => match nth h b with
          | some (some o) => match o.c with
            | .cells _ => K (.ptr b i (nAdd f (nMul (natOf ix) z)))
            | .rows sig _ => match f with
              | .l 0 => match Nat.beq (len sig) z with | true => K (.ptr b (nAdd i (natOf ix)) (.l 0)) | false => False
              | _ => False
          | _ => False
        | false => False
      | _ => False
    | _ => False
  | none => False
/-- the element of an array's value -/
def eIndex (T : Tab) (t : Nat) (x : AV) (ix : IX) (K : AV → Prop) : Prop :=
  match ti T t with
  | some d => match d.k with
    | .array n e => match ti T e with
      | some de => match ix with
        | .l j => inN (.l j) (.l n) fun _ => match x with
          | .agg cs => partV T e cs (j.toNat * de.size) K
          | .arr sig l => match de.isAgg with
            | false => match sig with
              | [k] => Chk (fun _ => (l ()).length = n) fun _ => K (cellOf k fun _ => ((l ()).getD j.toNat []).getD 0 (.i 0))
              | _ => False
            | true => False
          | _ => False
        | .t j => inN (.t j) (.l n) fun _ => match d.sig with
          | some sig => asRows sig n x fun l => match de.isAgg with
            | false => match sig with
              | [k] => K (cellOf k fun _ => ((l ()).getD (j ()).toNat []).getD 0 (.i 0))
              | _ => False
            | true => match Nat.beq de.size (len sig) with
              | true => K (.agg (cellsOf (fun _ => (l ()).getD (j ()).toNat []) sig 0))
              | false => False
          | none => False
      | none => False
    | _ => False
  | none => False
/-- a bound of a slice expression -/
def ixOf (t : List AV) (o : Option Operand) (d : NX) (K : NX → Prop) : Prop :=
  match o with
  | none => K d
  | some x => match ev t x with
    | .int _ n => match n with
      | .l n => match decide (0 ≤ n) with | true => K (.l n.toNat) | false => False
      | .t f => Chk (fun _ => 0 ≤ f ()) fun _ => K (.t fun _ => (f ()).toNat)
    | _ => False
def eSlice (T : Tab) (t : Nat) (tm : List AV) (x : AV) (lo hi mx : Option Operand) (h : Heap) (K : AV → Prop) : Prop :=
  match (match mx with | some _ => (match hi with | none => false | some _ => true) | none => true) with
  | false => False
  | true => match ti T t with
    | some d => match d.k with
      | .slice e => match x with
        | .sl b i f z n c ex => esz T e fun z' => match Nat.beq z z' with
          | true => ixOf tm mx c fun m => ixOf tm hi n fun u => ixOf tm lo (.l 0) fun l =>
              leN m c fun _ => leN u m fun _ => leN l u fun _ =>
                match nth h b with
                | some (some o) => match o.c with
                  | .cells _ => K (.sl b i (nAdd f (nMul l z)) z (nSub u l) (nSub m l) (match mx with | some _ => true | none => ex))
                  | .rows sig _ => match Nat.beq (len sig) z with
                    | true => K (.sl b (nAdd i l) f z (nSub u l) (nSub m l) (match mx with | some _ => true | none => ex))
                    | false => False
                | _ => False
          | false => False
        | .nils => esz T e fun _ => ixOf tm mx (.l 0) fun m => ixOf tm hi (.l 0) fun u => ixOf tm lo (.l 0) fun l =>
              leN m (.l 0) fun _ => leN u m fun _ => leN l u fun _ => K .nils
        | _ => False
      | .array n e => match x with
        | .ptr b i f => esz T e fun z => match Nat.blt 0 z with
          | true => ixOf tm mx (.l n) fun m => ixOf tm hi (.l n) fun u => ixOf tm lo (.l 0) fun l =>
            leN m (.l n) fun _ => leN u m fun _ => leN l u fun _ => match nth h b with
              | some (some o) => match i with
                | .l 0 => match f with
                  | .l f => match o.c with
                    | .cells cs => match part cs f (n * z) with
                      | some _ => K (.sl b (.l 0) (nAdd (.l f) (nMul l z)) z (nSub u l) (nSub m l) true)
                      | none => False
                    | .rows sig r => match f with
                      | 0 => match Nat.beq (len sig) z with
                        | true => Chk (fun _ => (r ()).length = n) fun _ => K (.sl b l (.l 0) z (nSub u l) (nSub m l) true)
                        | false => False
                      | _ => False
                  | _ => False
                | _ => False
              | _ => False
          | false => False
        | _ => False
      | _ => False
    | none => False
def eMinMax (gt : Bool) : List AV → (AV → Prop) → Prop
  | [], _ => False
  | [.int k a], K => K (.int k a)
  | .int k a :: .int k' b :: l, K => match kEq k k' with
    | true => eMinMax gt (.int k (ix2 (.mm gt) a b) :: l) K
    | false => False
  | _ :: _, _ => False
  termination_by l => l.length

/-! ### contracts -/
abbrev Con := List AV → Heap → (AV → Heap → Prop) → Prop
abbrev Env := Nat → Option Con
def env : List (Nat × Con) → Nat → Option Con
  | [], _ => none
  | p :: l, f => match Nat.beq p.1 f with | true => some p.2 | false => env l f
def lookC (G : Env) (f : Nat) : Option Con := G f
/-- an object that the callee owned, as the caller sees it -/
def renM (r : Nat → Option Nat) (o : Option (Option Obj)) : Option Obj :=
  match o with
  | some (some o) => match o.mt with | true => some (renO r o) | false => none
  | _ => none
def isRo (o : Option (Option Obj)) : Bool :=
  match o with
  | some (some o) => match o.mt with | true => false | false => true
  | _ => false
/-- the objects back in their places, and the new ones behind -/
def putBack (r : Nat → Option Nat) (h' : Heap) : List Nat → Nat → Heap → Heap
  | [], _, h => h
  | b :: m, j, h => match isRo (nth h b) with
    | true => putBack r h' m (j + 1) h
    | false => putBack r h' m (j + 1) (upd h b (renM r (nth h' j)))
def newOnes (r : Nat → Option Nat) (h' : Heap) : Nat → Nat → Heap
  | 0, _ => []
  | n + 1, j => renM r (nth h' j) :: newOnes r h' n (j + 1)
/-- a slice over a variable of cells, handed to a call: lent as rows -/
def lend (h : Heap) (v : AV) : Option (Option Obj) :=
  match v with
  | .sl b i f z n _ _ => match nth h b with
    | some (some o) => match o.c with
      | .rows _ _ => some none
      | .cells l => match i with
        | .l 0 => match f with
          | .l f => match n with
            | .l n => match part l f (n * z) with
              | some cs => match kdsOf (cs.take z) with
                | some sig => match Nat.beq (len sig) z with
                  | true => match fits sig n cs with
                    | true => some (some ⟨false, .rows sig fun _ => rowsOf z n cs⟩)
                    | false => none
                  | false => none
                | none => none
              | none => none
            | .t _ => none
          | .t _ => none
        | _ => none
    | _ => none
  | _ => some none
def isView (h : Heap) (v : AV) : Bool :=
  match lend h v with | some (some _) => true | _ => false
def plainArgs (h : Heap) : List AV → List AV
  | [] => []
  | a :: l => match isView h a with | true => plainArgs h l | false => a :: plainArgs h l
/-- the arguments as the callee sees them: objects m by their places, the lent ones behind -/
def locArgs (h : Heap) (m : List Nat) : List AV → Nat → List AV
  | [], _ => []
  | a :: l, k => match isView h a with
    | true => match a with
      | .sl _ _ _ z n c x => .sl k (.l 0) (.l 0) z n c x :: locArgs h m l (k + 1)
      | _ => .undef :: locArgs h m l k
    | false => renV (fun b => posN m b 0) a :: locArgs h m l k
def lentObjs (h : Heap) : List AV → Heap
  | [] => []
  | a :: l => match lend h a with
    | some (some o) => some o :: lentObjs h l
    | _ => lentObjs h l
def lendOk (h : Heap) : List AV → Bool
  | [] => true
  | a :: l => match lend h a with | some _ => lendOk h l | none => false
def touchAll : List Nat → List Tch
  | [] => []
  | b :: l => .obj b :: touchAll l
/-- the variables of cells that are lent -/
def viewIds (h : Heap) : List AV → List Nat
  | [] => []
  | a :: l => match isView h a with
    | true => match a with
      | .sl b _ _ _ _ _ _ => b :: viewIds h l
      | _ => viewIds h l
    | false => viewIds h l
def anyIn : List Nat → List Nat → Bool
  | [], _ => false
  | a :: l, m => match memN m a with | true => true | false => anyIn l m
def below (n : Nat) : List Nat → Bool
  | [] => true
  | a :: l => match Nat.blt a n with | true => below n l | false => false
def nodupN : List Nat → Bool
  | [] => true
  | a :: l => match memN l a with | true => false | false => nodupN l
def callOk (h : Heap) (m : List Nat) (args : List AV) : Bool :=
  match lendOk h args with
  | true => match below (len h) m with
    | true => match nodupN m with
      | true => match anyIn (viewIds h args) m with | true => false | false => true
      | false => false
    | false => false
  | false => false
def eCall (C : Con) (args : List AV) (h : Heap) (K : AV → Heap → List Tch → Prop) : Prop :=
    (fun m : List Nat => (fun lent : Heap =>
      match callOk h m args with
      | false => False
      | true =>
      C (locArgs h m args (len m)) (mapH (fun b => posN m b 0) h m ++ lent) fun v h' =>
        (fun r : Nat → Option Nat => K (renV r v) (putBack r h' m 0 h ++ newOnes r h' (len h' - (len m + len lent)) (len m + len lent)) (touchAll m))
          (fun j => match Nat.blt j (len m) with
            | true => nth m j
            | false => match Nat.blt j (len m + len lent) with | true => none | false => some (len h + (j - (len m + len lent)))))
      (lentObjs h args))
    (reach h (len h) 0 (refsL [] (plainArgs h args)))
end Go.Sy
end
