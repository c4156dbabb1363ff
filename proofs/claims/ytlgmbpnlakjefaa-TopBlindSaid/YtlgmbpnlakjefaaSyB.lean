/- The evaluator: operations, calls by contract, regions in whatever order Go leaves open, code, loops. Definitions alone. -/
import Derived.Test.YtlgmbpnlakjefaaSyA
namespace Go.Sy

/-! ### references -/
def memN : List Nat → Nat → Bool
  | [], _ => false
  | a :: l, n => match Nat.beq a n with | true => true | false => memN l n
def addN (acc : List Nat) (b : Nat) : List Nat := match memN acc b with | true => acc | false => acc ++ [b]
mutual
def refsV (acc : List Nat) : AV → List Nat
  | .ptr b _ _ => addN acc b
  | .sl b _ _ _ _ _ _ => addN acc b
  | .func _ fs cs => refsL (refsL acc fs) cs
  | .agg cs => refsL acc cs
  | .tuple cs => refsL acc cs
  | _ => acc
def refsL (acc : List Nat) : List AV → List Nat
  | [] => acc
  | a :: l => refsL (refsV acc a) l
end
def refsO (h : Heap) (acc : List Nat) (b : Nat) : List Nat :=
  match nth h b with
  | some (some o) => match o.c with | .cells l => refsL acc l | .rows _ _ => acc
  | _ => acc
/-- from the i-th one on, what each leads to, too -/
def reach (h : Heap) : Nat → Nat → List Nat → List Nat
  | 0, _, acc => acc
  | n + 1, i, acc => match nth acc i with
    | some b => reach h n (i + 1) (refsO h acc b)
    | none => acc
def posN : List Nat → Nat → Nat → Option Nat
  | [], _, _ => none
  | a :: l, n, i => match Nat.beq a n with | true => some i | false => posN l n (i + 1)
mutual
def renV (r : Nat → Option Nat) : AV → AV
  | .ptr b i f => match r b with | some c => .ptr c i f | none => .undef
  | .sl b i f e n c x => match r b with | some d => .sl d i f e n c x | none => .undef
  | .func fn fs cs => .func fn (renL r fs) (renL r cs)
  | .agg cs => .agg (renL r cs)
  | .tuple cs => .tuple (renL r cs)
  | .undef => .undef
  | .bool b => .bool b
  | .int k n => .int k n
  | .nilp => .nilp
  | .nils => .nils
  | .ro s l => .ro s l
  | .nilf => .nilf
  | .arr s l => .arr s l
def renL (r : Nat → Option Nat) : List AV → List AV
  | [] => []
  | a :: l => renV r a :: renL r l
end
def renO (r : Nat → Option Nat) (o : Obj) : Obj :=
  match o.c with
  | .cells l => ⟨o.mt, .cells (renL r l)⟩
  | .rows s l => ⟨o.mt, .rows s l⟩
def renH (r : Nat → Option Nat) (o : Option (Option Obj)) : Option Obj :=
  match o with
  | some (some o) => some (renO r o)
  | _ => none
def mapH (r : Nat → Option Nat) (h : Heap) : List Nat → Heap
  | [] => []
  | b :: l => renH r (nth h b) :: mapH r h l
def iota : Nat → Nat → List Nat
  | 0, _ => []
  | n + 1, i => i :: iota n (i + 1)

/-! ### a value and its cells -/
def len2 {α : Type} (l : List α) : Nat := len l
def dOf : AV → D
  | .int _ n => .i n.v
  | .bool b => .b b.v
  | .ro _ l => .s (l ())
  | _ => .i 0
def dsOf : List AV → List D
  | [] => []
  | a :: l => dOf a :: dsOf l
def kdOf : AV → Option Kd
  | .int k _ => some (.int k)
  | .bool _ => some .bool
  | _ => none
def kdsOf : List AV → Option (List Kd)
  | [] => some []
  | a :: l => match kdOf a with
    | some k => match kdsOf l with | some r => some (k :: r) | none => none
    | none => none
def kEq : IntKind → IntKind → Bool
  | .i8, .i8 => true | .i16, .i16 => true | .i32, .i32 => true | .i64, .i64 => true
  | .u8, .u8 => true | .u16, .u16 => true | .u32, .u32 => true | .u64, .u64 => true
  | _, _ => false
def kdEq : Kd → Kd → Bool
  | .int a, .int b => kEq a b
  | .bool, .bool => true
  | _, _ => false
def sigEq : List Kd → List Kd → Bool
  | [], [] => true
  | a :: l, b :: m => match kdEq a b with | true => sigEq l m | false => false
  | _, _ => false
/-- cells of plain data, by the signature again and again -/
def fits (sig : List Kd) : Nat → List AV → Bool
  | 0, [] => true
  | 0, _ :: _ => false
  | n + 1, cs => match part cs 0 (len sig) with
    | some r => match kdsOf r with
      | some q => match sigEq q sig with
        | true => match dropX (len sig) cs with | some rest => fits sig n rest | none => false
        | false => false
      | none => false
    | none => false
/-- cells, cut into rows of m -/
def rowsOf (m : Nat) : Nat → List AV → List (List D)
  | 0, _ => []
  | n + 1, cs => dsOf (cs.take m) :: rowsOf m n (cs.drop m)
def spread (sig : List Kd) (l : Unit → List (List D)) : Nat → Nat → List AV
  | 0, _ => []
  | n + 1, j => cellsOf (fun _ => (l ()).getD j []) sig 0 ++ spread sig l n (j + 1)
def scal : AV → Bool
  | .undef => false | .agg _ => false | .arr _ _ => false | .tuple _ => false
  | _ => true
def allScal : List AV → Bool
  | [] => true
  | a :: l => match scal a with | true => allScal l | false => false
/-- the cells of a value of a type -/
def cellsV (T : Tab) (t : Nat) (v : AV) (K : List AV → Prop) : Prop :=
  match ti T t with
  | some d => match v with
    | .agg cs => match Nat.beq (len cs) d.size with
      | true => match d.isAgg with
        | true => match allScal cs with | true => K cs | false => False
        | false => False
      | false => False
    | .arr sig l => match d.k with
      | .array n _ => match Nat.beq (n * len sig) d.size with
        | true => Chk (fun _ => (l ()).length = n) fun _ => K (spread sig l n 0)
        | false => False
      | _ => False
    | v => match scal v with
      | true => match Nat.beq d.size 1 with
        | true => match d.isAgg with | true => False | false => K [v]
        | false => False
      | false => False
  | none => False
/-- a value of an array's type as rows of a signature -/
def asRows (sig : List Kd) (n : Nat) (v : AV) (K : (Unit → List (List D)) → Prop) : Prop :=
  match v with
  | .agg cs => match fits sig n cs with | true => K fun _ => rowsOf (len sig) n cs | false => False
  | .arr s l => match sigEq s sig with
    | true => Chk (fun _ => (l ()).length = n) fun _ => K l
    | false => False
  | _ => False
/-- what a variable of a type holds at first, or is made of -/
def contOf (T : Tab) (t : Nat) (v : AV) (K : Cont → Prop) : Prop :=
  match ti T t with
  | some d => match d.k, d.sig with
    | .array n _, some sig => match Nat.blt 0 (len sig) with
      | true => asRows sig n v fun l => K (.rows sig l)
      | false => False
    | _, _ => cellsV T t v fun cs => K (.cells cs)
  | none => False

/-! ### what an operation has touched -/
inductive Tch | obj (b : Nat) | cel (b f n : Nat)
def Tch.clash : Tch → Tch → Bool
  | .obj a, .obj b => Nat.beq a b
  | .obj a, .cel b _ _ => Nat.beq a b
  | .cel a _ _, .obj b => Nat.beq a b
  | .cel a f n, .cel b g m => match Nat.beq a b with
    | true => match Nat.ble (f + n) g with
      | true => false
      | false => match Nat.ble (g + m) f with | true => false | false => true
    | false => false

/-! ### memory -/
def push (h : Heap) (o : Obj) (K : Nat → Heap → Prop) : Prop := K (len h) (h ++ [some o])
/-- one of n cells of a kind, from lo on: the proof says which -/
def cellAny (l : List AV) (lo n : Nat) (f : Unit → Nat) (K : AV → Prop) : Prop :=
  match part l lo n with
  | some cs => match cs with
    | c :: _ => match kdOf c with
      | some k => match fits [k] n cs with
        | true => Chk (fun _ => lo ≤ f () ∧ f () < lo + n) fun _ => K (cellOf k fun _ => ((rowsOf 1 n cs).getD (nsub (f ()) lo) []).getD 0 (.i 0))
        | false => False
      | none => False
    | [] => False
  | none => False
def eLoad (T : Tab) (t : Nat) (a : AV) (h : Heap) (K : AV → Tch → Prop) : Prop :=
  match a with
  | .ptr b i f => match nth h b with
    | some (some o) => match ti T t with
      | some d => match o.c with
        | .cells l => match i with
          | .l 0 => match f with
            | .l f => match d.isAgg with
              | true => match part l f d.size with | some cs => K (.agg cs) (.cel b f d.size) | none => False
              | false => match nth l f with | some v => K v (.cel b f 1) | none => False
            | .t f => match d.isAgg with
              | true => False
              | false => ∃ lo n, cellAny l lo n f fun v => K v (.cel b lo n)
          | _ => False
        | .rows sig l => match f with
          | .l j => match d.isAgg with
            | false => match nth sig j with
              | some k => inN (ofNat i) (.t fun _ => (l ()).length) fun _ => K (cellOf k fun _ => ((l ()).getD i.v []).getD j (.i 0)) (.obj b)
              | none => False
            | true => match j with
              | 0 => match d.k with
                | .array n _ => match i with
                  | .l 0 => Chk (fun _ => (l ()).length = n) fun _ => match Nat.beq d.size (n * len sig) with | true => K (.arr sig l) (.obj b) | false => False
                  | _ => False
                | _ => match Nat.beq d.size (len sig) with
                  | true => inN (ofNat i) (.t fun _ => (l ()).length) fun _ => K (.agg (cellsOf (fun _ => (l ()).getD i.v []) sig 0)) (.obj b)
                  | false => False
              | _ => False
          | .t _ => False
      | none => False
    | _ => False
  | _ => False
def eStore (T : Tab) (t : Nat) (a v : AV) (h : Heap) (K : Heap → Tch → Prop) : Prop :=
  match a with
  | .ptr b i f => match nth h b with
    | some (some o) => match o.mt with
      | true => match ti T t with
        | some d => match o.c with
          | .cells l => match i with
            | .l 0 => match f with
              | .l f => cellsV T t v fun cs => match putAt l f cs with
                | some l' => K (upd h b (some ⟨true, .cells l'⟩)) (.cel b f d.size)
                | none => False
              | .t _ => False
            | _ => False
          | .rows sig l => match f with
            | .l j => match d.isAgg with
              | false => match nth sig j with
                | some k => match kdOf v with
                  | some k' => match kdEq k' k with
                    | true => inN (ofNat i) (.t fun _ => (l ()).length) fun _ =>
                        K (upd h b (some ⟨true, .rows sig fun _ => (l ()).set i.v (((l ()).getD i.v []).set j (dOf v))⟩)) (.obj b)
                    | false => False
                  | none => False
                | none => False
              | true => match j with
                | 0 => match d.k with
                  | .array n _ => match i with
                    | .l 0 => match Nat.beq d.size (n * len sig) with
                      | true => Chk (fun _ => (l ()).length = n) fun _ => asRows sig n v fun l' => K (upd h b (some ⟨true, .rows sig l'⟩)) (.obj b)
                      | false => False
                    | _ => False
                  | _ => match Nat.beq d.size (len sig) with
                    | true => asRows sig 1 v fun l' => inN (ofNat i) (.t fun _ => (l ()).length) fun _ =>
                        K (upd h b (some ⟨true, .rows sig fun _ => (l ()).set i.v ((l' ()).getD 0 [])⟩)) (.obj b)
                    | false => False
                | _ => False
            | .t _ => False
        | none => False
      | false => False
    | _ => False
  | _ => False

/-! ### plain operations: no memory is read or changed -/
def fillA (T : Tab) (place : Nat → Option (Nat × Nat)) (cs : List AV) : List (Nat × AV) → (List AV → Prop) → Prop
  | [], K => K cs
  | p :: rest, K => match place p.1 with
    | some q => cellsV T q.2 p.2 fun vs => match putAt cs q.1 vs with
      | some cs' => fillA T place cs' rest K
      | none => False
    | none => False
def fieldAt (T : Tab) (s fi : Nat) (K : Nat → Nat → Prop) : Prop :=
  match ti T s with
  | some d => match d.k with
    | .struct fs => match nth fs fi with | some p => K p.1 p.2 | none => False
    | _ => False
  | none => False
/-- the part of some cells from an offset on that is of a type -/
def partV (T : Tab) (t : Nat) (cs : List AV) (off : Nat) (K : AV → Prop) : Prop :=
  match ti T t with
  | some d => match d.isAgg with
    | true => match part cs off d.size with | some r => K (.agg r) | none => False
    | false => match nth cs off with | some v => K v | none => False
  | none => False
def ePick (c : BX) (a b : AV) (K : AV → Prop) : Prop :=
  match c with
  | .l true => K a
  | .l false => K b
  | .t f => match a with
    | .bool x => match b with
      | .bool y => K (.bool (.t fun _ => match f () with | true => x.v | false => y.v))
      | _ => Br f (fun _ => K a) fun _ => K b
    | _ => Br f (fun _ => K a) fun _ => K b
def eBin (T : Tab) (op : BinOp) (t : Nat) (x y : AV) (K : AV → Prop) : Prop :=
  match x with
  | .int k a => match y with
    | .int k' b => match op with
      | .shl => eInt .shl k a b K
      | .shr => eInt .shr k a b K
      | op => match kEq k k' with | true => eInt op k a b K | false => False
    | _ => False
  | .bool a => match y with
    | .bool b => match ti T t with
      | some d => match d.k with
        | .bool => match op with
          | .eql => K (.bool (bEq a b))
          | .neq => K (.bool (bNot (bEq a b)))
          | _ => False
        | _ => False
      | none => False
    | _ => False
  | _ => False
def eUn (op : UnOp) (x : AV) (K : AV → Prop) : Prop :=
  match op with
  | .not => match x with | .bool b => K (.bool (bNot b)) | _ => False
  | .neg => match x with | .int k n => fit k (ix2 .sub (.l 0) n) K | _ => False
  | .xor => match x with | .int k n => K (.int k (ix2 (.bits .xor k) (.l (match k.signed with | true => -1 | false => k.max)) n)) | _ => False
  | _ => False
/-- a conversion between whole numbers: wide enough, or it wraps -/
def kWide : IntKind → IntKind → Bool
  | .u8, .u16 => true | .u8, .u32 => true | .u8, .u64 => true | .u8, .i64 => true | .u8, .i32 => true | .u8, .i16 => true
  | .u16, .u32 => true | .u16, .u64 => true | .u16, .i64 => true | .u16, .i32 => true
  | .u32, .u64 => true | .u32, .i64 => true | .i8, .i64 => true | .i16, .i64 => true | .i32, .i64 => true
  | _, _ => false
def eConv (dst : IntKind) (n : IX) (K : AV → Prop) : Prop :=
  match n with
  | .l n => K (.int dst (.l (dst.wrap n)))
  | .t f => K (.int dst (.t fun _ => dst.wrap (f ())))
def esz (T : Tab) (t : Nat) (K : Nat → Prop) : Prop := match ti T t with | some d => K d.size | none => False

/-- the address of an element -/
def eIndexAddr (T : Tab) (t : Nat) (x : AV) (ix : IX) (h : Heap) (K : AV → Prop) : Prop :=
  match ti T t with
  | some d => match d.k with
    | .array n e => match x with
      | .ptr b i f => esz T e fun z => inN ix (.l n) fun _ => match nth h b with
        | some (some o) => match o.c with
          | .cells _ => K (.ptr b i (nAdd f (nMul (natOf ix) z)))
          | .rows sig _ => match f with
            | .l 0 => match Nat.beq (len sig) z with | true => K (.ptr b (nAdd i (natOf ix)) (.l 0)) | false => False
            | _ => False
        | _ => False
      | _ => False
    | .slice e => match x with
      | .sl b i f z n _ _ => esz T e fun z' => match Nat.beq z z' with
        | true => inN ix n fun _ => match nth h b with
          | some (some o) => match o.c with
            | .cells _ => K (.ptr b i (nAdd f (nMul (natOf ix) z)))
            | .rows sig _ => match f with
              | .l 0 => match Nat.beq (len sig) z with | true => K (.ptr b (nAdd i (natOf ix)) (.l 0)) | false => False
              | _ => False
          | _ => False
        | false => False
      | _ => False
    | _ => False
  | none => False
/-- the element of an array's value -/
def eIndex (T : Tab) (t : Nat) (x : AV) (ix : IX) (K : AV → Prop) : Prop :=
  match ti T t with
  | some d => match d.k with
    | .array n e => match ti T e with
      | some de => match ix with
        | .l j => inN (.l j) (.l n) fun _ => match x with
          | .agg cs => partV T e cs (j.toNat * de.size) K
          | .arr sig l => match de.isAgg with
            | false => match sig with
              | [k] => Chk (fun _ => (l ()).length = n) fun _ => K (cellOf k fun _ => ((l ()).getD j.toNat []).getD 0 (.i 0))
              | _ => False
            | true => False
          | _ => False
        | .t j => inN (.t j) (.l n) fun _ => match d.sig with
          | some sig => asRows sig n x fun l => match de.isAgg with
            | false => match sig with
              | [k] => K (cellOf k fun _ => ((l ()).getD (j ()).toNat []).getD 0 (.i 0))
              | _ => False
            | true => match Nat.beq de.size (len sig) with
              | true => K (.agg (cellsOf (fun _ => (l ()).getD (j ()).toNat []) sig 0))
              | false => False
          | none => False
      | none => False
    | _ => False
  | none => False
/-- a bound of a slice expression -/
def ixOf (t : List AV) (o : Option Operand) (d : NX) (K : NX → Prop) : Prop :=
  match o with
  | none => K d
  | some x => match ev t x with
    | .int _ n => match n with
      | .l n => match decide (0 ≤ n) with | true => K (.l n.toNat) | false => False
      | .t f => Chk (fun _ => 0 ≤ f ()) fun _ => K (.t fun _ => (f ()).toNat)
    | _ => False
def eSlice (T : Tab) (t : Nat) (tm : List AV) (x : AV) (lo hi mx : Option Operand) (h : Heap) (K : AV → Prop) : Prop :=
  match (match mx with | some _ => (match hi with | none => false | some _ => true) | none => true) with
  | false => False
  | true => match ti T t with
    | some d => match d.k with
      | .slice e => match x with
        | .sl b i f z n c ex => esz T e fun z' => match Nat.beq z z' with
          | true => ixOf tm mx c fun m => ixOf tm hi n fun u => ixOf tm lo (.l 0) fun l =>
              leN m c fun _ => leN u m fun _ => leN l u fun _ =>
                match nth h b with
                | some (some o) => match o.c with
                  | .cells _ => K (.sl b i (nAdd f (nMul l z)) z (nSub u l) (nSub m l) (match mx with | some _ => true | none => ex))
                  | .rows sig _ => match Nat.beq (len sig) z with
                    | true => K (.sl b (nAdd i l) f z (nSub u l) (nSub m l) (match mx with | some _ => true | none => ex))
                    | false => False
                | _ => False
          | false => False
        | .nils => esz T e fun _ => ixOf tm mx (.l 0) fun m => ixOf tm hi (.l 0) fun u => ixOf tm lo (.l 0) fun l =>
              leN m (.l 0) fun _ => leN u m fun _ => leN l u fun _ => K .nils
        | _ => False
      | .array n e => match x with
        | .ptr b i f => esz T e fun z => match Nat.blt 0 z with
          | true => ixOf tm mx (.l n) fun m => ixOf tm hi (.l n) fun u => ixOf tm lo (.l 0) fun l =>
            leN m (.l n) fun _ => leN u m fun _ => leN l u fun _ => match nth h b with
              | some (some o) => match i with
                | .l 0 => match f with
                  | .l f => match o.c with
                    | .cells cs => match part cs f (n * z) with
                      | some _ => K (.sl b (.l 0) (nAdd (.l f) (nMul l z)) z (nSub u l) (nSub m l) true)
                      | none => False
                    | .rows sig r => match f with
                      | 0 => match Nat.beq (len sig) z with
                        | true => Chk (fun _ => (r ()).length = n) fun _ => K (.sl b l (.l 0) z (nSub u l) (nSub m l) true)
                        | false => False
                      | _ => False
                  | _ => False
                | _ => False
              | _ => False
          | false => False
        | _ => False
      | _ => False
    | none => False
def eMinMax (gt : Bool) : List AV → (AV → Prop) → Prop
  | [], _ => False
  | [.int k a], K => K (.int k a)
  | .int k a :: .int k' b :: l, K => match kEq k k' with
    | true => eMinMax gt (.int k (ix2 (.mm gt) a b) :: l) K
    | false => False
  | _ :: _, _ => False
  termination_by l => l.length

/-! ### contracts -/
abbrev Con := List AV → Heap → (AV → Heap → Prop) → Prop
abbrev Env := Nat → Option Con
def env : List (Nat × Con) → Nat → Option Con
  | [], _ => none
  | p :: l, f => match Nat.beq p.1 f with | true => some p.2 | false => env l f
def lookC (G : Env) (f : Nat) : Option Con := G f
/-- an object that the callee owned, as the caller sees it -/
def renM (r : Nat → Option Nat) (o : Option (Option Obj)) : Option Obj :=
  match o with
  | some (some o) => match o.mt with | true => some (renO r o) | false => none
  | _ => none
def isRo (o : Option (Option Obj)) : Bool :=
  match o with
  | some (some o) => match o.mt with | true => false | false => true
  | _ => false
/-- the objects back in their places, and the new ones behind -/
def putBack (r : Nat → Option Nat) (h' : Heap) : List Nat → Nat → Heap → Heap
  | [], _, h => h
  | b :: m, j, h => match isRo (nth h b) with
    | true => putBack r h' m (j + 1) h
    | false => putBack r h' m (j + 1) (upd h b (renM r (nth h' j)))
def newOnes (r : Nat → Option Nat) (h' : Heap) : Nat → Nat → Heap
  | 0, _ => []
  | n + 1, j => renM r (nth h' j) :: newOnes r h' n (j + 1)
/-- a slice over a variable of cells, handed to a call: lent as rows -/
def lend (h : Heap) (v : AV) : Option (Option Obj) :=
  match v with
  | .sl b i f z n _ _ => match nth h b with
    | some (some o) => match o.c with
      | .rows _ _ => some none
      | .cells l => match i with
        | .l 0 => match f with
          | .l f => match n with
            | .l n => match part l f (n * z) with
              | some cs => match kdsOf (cs.take z) with
                | some sig => match Nat.beq (len sig) z with
                  | true => match fits sig n cs with
                    | true => some (some ⟨false, .rows sig fun _ => rowsOf z n cs⟩)
                    | false => none
                  | false => none
                | none => none
              | none => none
            | .t _ => none
          | .t _ => none
        | _ => none
    | _ => none
  | _ => some none
def isView (h : Heap) (v : AV) : Bool :=
  match lend h v with | some (some _) => true | _ => false
def plainArgs (h : Heap) : List AV → List AV
  | [] => []
  | a :: l => match isView h a with | true => plainArgs h l | false => a :: plainArgs h l
/-- the arguments as the callee sees them: objects m by their places, the lent ones behind -/
def locArgs (h : Heap) (m : List Nat) : List AV → Nat → List AV
  | [], _ => []
  | a :: l, k => match isView h a with
    | true => match a with
      | .sl _ _ _ z n c x => .sl k (.l 0) (.l 0) z n c x :: locArgs h m l (k + 1)
      | _ => .undef :: locArgs h m l k
    | false => renV (fun b => posN m b 0) a :: locArgs h m l k
def lentObjs (h : Heap) : List AV → Heap
  | [] => []
  | a :: l => match lend h a with
    | some (some o) => some o :: lentObjs h l
    | _ => lentObjs h l
def lendOk (h : Heap) : List AV → Bool
  | [] => true
  | a :: l => match lend h a with | some _ => lendOk h l | none => false
def touchAll : List Nat → List Tch
  | [] => []
  | b :: l => .obj b :: touchAll l
/-- the variables of cells that are lent -/
def viewIds (h : Heap) : List AV → List Nat
  | [] => []
  | a :: l => match isView h a with
    | true => match a with
      | .sl b _ _ _ _ _ _ => b :: viewIds h l
      | _ => viewIds h l
    | false => viewIds h l
def anyIn : List Nat → List Nat → Bool
  | [], _ => false
  | a :: l, m => match memN m a with | true => true | false => anyIn l m
def below (n : Nat) : List Nat → Bool
  | [] => true
  | a :: l => match Nat.blt a n with | true => below n l | false => false
def nodupN : List Nat → Bool
  | [] => true
  | a :: l => match memN l a with | true => false | false => nodupN l
def callOk (h : Heap) (m : List Nat) (args : List AV) : Bool :=
  match lendOk h args with
  | true => match below (len h) m with
    | true => match nodupN m with
      | true => match anyIn (viewIds h args) m with | true => false | false => true
      | false => false
    | false => false
  | false => false
def eCall (C : Con) (args : List AV) (h : Heap) (K : AV → Heap → List Tch → Prop) : Prop :=
    (fun m : List Nat => (fun lent : Heap =>
      match callOk h m args with
      | false => False
      | true =>
      C (locArgs h m args (len m)) (mapH (fun b => posN m b 0) h m ++ lent) fun v h' =>
        (fun r : Nat → Option Nat => K (renV r v) (putBack r h' m 0 h ++ newOnes r h' (len h' - (len m + len lent)) (len m + len lent)) (touchAll m))
          (fun j => match Nat.blt j (len m) with
            | true => nth m j
            | false => match Nat.blt j (len m + len lent) with | true => none | false => some (len h + (j - (len m + len lent)))))
      (lentObjs h args))
    (reach h (len h) 0 (refsL [] (plainArgs h args)))
end Go.Sy
