/- Put together by a program of this work out of its texts SyC, SyD, SyE. -/
import Derived.Test.YtlgmbpnlakjefaaDoorM1
import Derived.Laws.Cells
import Derived.Laws.IdiomCopy
import Derived.Laws.World
import Derived.Laws.Entries
import Derived.Laws.Build
import Derived.Laws.ByValue
section
/- The evaluator: one operation; regions in the text's order and in whatever order Go leaves open; code, loops, results. Definitions alone. -/
namespace Go.Sy

/-- What an append may do: write in place, go over to new memory, or (nobody knows) either. -/
inductive App (fits : Unit → Prop) (ex own : Bool) (K1 K2 K3 : Unit → Prop) : Prop
  | inplace : own = true → fits () → K1 () → App fits ex own K1 K2 K3
  | either : own = true → K2 () → App fits ex own K1 K2 K3
  | fresh : ex = true → ¬ fits () → K3 () → App fits ex own K1 K2 K3

def zeroOf (d : TD) (K : AV → Prop) : Prop :=
  match d.isAgg with
  | true => K (.agg d.zero)
  | false => match d.zero with | [v] => K v | _ => False
/-- the rows that a slice shows -/
def rowsIn (h : Heap) (x : AV) (K : List Kd → (Unit → List (List D)) → NX → Prop) (nil : Unit → Prop) : Prop :=
  match x with
  | .nils => nil ()
  | .sl b i f z n _ _ => match nth h b with
    | some (some o) => match o.c with
      | .rows sig l => match f with
        | .l 0 => match Nat.beq (len sig) z with
          | true => leN (nAdd i n) (.t fun _ => (l ()).length) fun _ => K sig (fun _ => ((l ()).drop i.v).take n.v) n
          | false => False
        | _ => False
      | _ => False
    | _ => False
  | _ => False
def maxBytes : Nat := 140737488355328
def eAppend (d : TD) (s x : AV) (h : Heap) (K : AV → Heap → List Tch → Prop) : Prop :=
  rowsIn h x (fun sig xl n2 =>
    match sigEq sig (match d.sig with | some q => q | none => []) with
    | false => False
    | true => match Nat.beq d.size (len sig) with
     | false => False
     | true => match Nat.blt 0 d.bytes with
     | false => False
     | true => match s with
      | .nils => Chk (fun _ => n2.v * d.bytes ≤ maxBytes) fun _ =>
          push h ⟨true, .rows sig xl⟩ fun n h' => K (.sl n (.l 0) (.l 0) (len sig) n2 n2 false) h' []
      | .sl b i f z n c ex => match nth h b with
        | some (some o) => match o.c with
          | .rows sig' l => match f with
            | .l 0 => match sigEq sig' sig with
              | true => match Nat.beq z (len sig) with
                | true => leN (nAdd i n) (.t fun _ => (l ()).length) fun _ => Chk (fun _ => (n.v + n2.v) * d.bytes ≤ maxBytes) fun _ =>
                    App (fun _ => n.v + n2.v ≤ c.v) ex o.mt
                      (fun _ => K (.sl b i (.l 0) z (nAdd n n2) c ex)
                        (upd h b (some ⟨true, .rows sig fun _ => (l ()).take (i.v + n.v) ++ xl () ++ (l ()).drop (i.v + n.v + n2.v)⟩)) [.obj b])
                      (fun _ => push (upd h b none) ⟨true, .rows sig fun _ => ((l ()).drop i.v).take n.v ++ xl ()⟩ fun m h' =>
                        K (.sl m (.l 0) (.l 0) z (nAdd n n2) (nAdd n n2) false) h' [.obj b])
                      (fun _ => push h ⟨true, .rows sig fun _ => ((l ()).drop i.v).take n.v ++ xl ()⟩ fun m h' =>
                        K (.sl m (.l 0) (.l 0) z (nAdd n n2) (nAdd n n2) false) h' [])
                | false => False
              | false => False
            | _ => False
          | _ => False
        | _ => False
      | _ => False)
    (fun _ => match s with
      | .nils => K .nils h []
      | .sl b i f z n c ex => K (.sl b i f z n c ex) h []
      | _ => False)
def eClear (d : TD) (x : AV) (h : Heap) (K : AV → Heap → List Tch → Prop) : Prop :=
  match x with
  | .nils => K (.tuple []) h []
  | .sl b i f z n _ _ => match nth h b with
    | some (some o) => match o.mt with
      | true => match o.c with
        | .rows sig l => match f with
          | .l 0 => match sigEq sig (match d.sig with | some q => q | none => []) with
            | true => match (match Nat.beq z (len sig) with | true => (match Nat.beq d.size (len sig) with | true => fits sig 1 d.zero | false => false) | false => false) with
              | true => leN (nAdd i n) (.t fun _ => (l ()).length) fun _ =>
                  K (.tuple []) (upd h b (some ⟨true, .rows sig fun _ => (l ()).take i.v ++ List.replicate n.v (dsOf d.zero) ++ (l ()).drop (i.v + n.v)⟩)) [.obj b]
              | false => False
            | false => False
          | _ => False
        | _ => False
      | false => False
    | _ => False
  | _ => False
def eLen (T : Tab) (t : Nat) (x : AV) (K : AV → Prop) : Prop :=
  match ti T t with
  | some d => match d.k with
    | .slice _ => match x with
      | .nils => K (.int .i64 (.l 0))
      | .sl _ _ _ _ n _ _ => K (.int .i64 (ofNat n))
      | _ => False
    | .array n _ => K (.int .i64 (.l n))
    | .ptr e => match ti T e with
      | some de => match de.k with | .array n _ => K (.int .i64 (.l n)) | _ => False
      | none => False
    | _ => False
  | none => False
def evs (t : List AV) : List Operand → List AV
  | [] => []
  | x :: l => ev t x :: evs t l
def eBuiltin (T : Tab) (b : Builtin) (ts : List Nat) (xs : List AV) (h : Heap) (K : AV → Heap → List Tch → Prop) : Prop :=
  match b with
  | .len => match ts with
    | [t] => match xs with | [x] => eLen T t x fun v => K v h [] | _ => False
    | _ => False
  | .max => eMinMax true xs fun v => K v h []
  | .min => eMinMax false xs fun v => K v h []
  | .append => match ts with
    | [t, t'] => match xs with
      | [s, x] => match ti T t with
        | some d => match d.k with
          | .slice e => match ti T t' with
            | some d' => match d'.k with
              | .slice _ => match ti T e with
                | some de => eAppend de s x h K
                | none => False
              | _ => False
            | none => False
          | _ => False
        | none => False
      | _ => False
    | _ => False
  | .clear => match ts with
    | [t] => match xs with
      | [x] => match ti T t with
        | some d => match d.k with
          | .slice e => match ti T e with
            | some de => eClear de x h K
            | none => False
          | _ => False
        | none => False
      | _ => False
    | _ => False
  | _ => False
def parts (t : List AV) : List (Nat × Operand) → List (Nat × AV)
  | [] => []
  | p :: l => (p.1, ev t p.2) :: parts t l
def eBuild (T : Tab) (t : Nat) (ps : List (Nat × AV)) (K : AV → Prop) : Prop :=
  match ti T t with
  | some d => match d.k with
    | .struct fs => fillA T (nth fs) d.zero ps fun cs => K (.agg cs)
    | .array _ e => esz T e fun z => fillA T (fun i => some (i * z, e)) d.zero ps fun cs => K (.agg cs)
    | _ => False
  | none => False
def rep {α : Type} : Nat → List α → List α
  | 0, _ => []
  | n + 1, l => l ++ rep n l
def eBuildSlice (T : Tab) (t n : Nat) (ps : List (Nat × AV)) (h : Heap) (K : AV → Heap → Prop) : Prop :=
  match ti T t with
  | some d => match d.k with
    | .slice e => match ti T e with
      | some de => match de.sig with
        | some sig => match (match Nat.beq (len sig) de.size with | true => Nat.blt 0 (len sig) | false => false) with
          | true => match Nat.ble (n * de.size) 16777216 with
            | true => fillA T (fun i => some (i * de.size, e)) (rep n de.zero) ps fun cs => match fits sig n cs with
              | true => push h ⟨true, .rows sig fun _ => rowsOf (len sig) n cs⟩ fun m h' => K (.sl m (.l 0) (.l 0) de.size (.l n) (.l n) true) h'
              | false => False
            | false => False
          | false => False
        | none => False
      | none => False
    | _ => False
  | none => False
def eMakeSlice (T : Tab) (t : Nat) (l c : AV) (h : Heap) (K : AV → Heap → Prop) : Prop :=
  match ti T t with
  | some d => match d.k with
    | .slice e => match ti T e with
      | some de => match de.sig with
        | some sig => match (match Nat.beq (len sig) de.size with | true => (match Nat.blt 0 (len sig) with | true => (match Nat.blt 0 de.bytes with | true => fits sig 1 de.zero | false => false) | false => false) | false => false) with
          | true => match l with
            | .int _ a => match c with
              | .int _ b => Chk (fun _ => 0 ≤ a.v ∧ a.v ≤ b.v ∧ b.v * de.bytes ≤ maxBytes) fun _ =>
                  push h ⟨true, .rows sig fun _ => List.replicate a.v.toNat (dsOf de.zero)⟩ fun m h' => K (.sl m (.l 0) (.l 0) de.size (natOf a) (natOf b) true) h'
              | _ => False
            | _ => False
          | false => False
        | none => False
      | none => False
    | _ => False
  | none => False
/-- the address of an element of a package's table -/
def eGlobAddr (T : Tab) (t g : Nat) (i : NX) (ix : IX) (K : AV → Prop) : Prop :=
  match ti T t with
  | some d => match d.k with
    | .array n e => match i with
      | .l 0 => match gtab g with
        | some p => esz T e fun z => match Nat.beq (len p.1) z with
          | true => inN ix (.l n) fun _ => K (.gp g (natOf ix))
          | false => False
        | none => False
      | _ => False
    | _ => False
  | none => False
def byteAt (s : ByteArray) (n : Nat) : Int := (s.data[n]?.getD 0).toNat
/-- a byte of a constant text -/
def eStrIndex (T : Tab) (t : Nat) (s : ByteArray) (ix : IX) (K : AV → Prop) : Prop :=
  match ti T t with
  | some d => match d.k with
    | .str => inN ix (.l s.size) fun _ => match ix with
      | .l n => K (.int .u8 (.l (byteAt s n.toNat)))
      | .t f => K (.int .u8 (.t fun _ => byteAt s (f ()).toNat))
    | _ => False
  | none => False
/-- an operation that neither reads nor changes memory -/
def ePure (T : Tab) (st : St) (o : Op) (K : AV → Prop) : Prop :=
  match o with
  | .move x => K (ev st.t x)
  | .assign x => K (ev st.t x)
  | .pick c a b => match ev st.t c with | .bool c => ePick c (ev st.t a) (ev st.t b) K | _ => False
  | .build t ps => eBuild T t (parts st.t ps.toList) K
  | .nilCheck x => match ev st.t x with
    | .ptr b i f => K (.ptr b i f)
    | .func (.func g) fs cs => K (.func (.func g) fs cs)
    | _ => False
  | .binOp op t x y _ => eBin T op t (ev st.t x) (ev st.t y) K
  | .unOp op _ x => eUn op (ev st.t x) K
  | .convert s d x => match ti T d with
    | some dd => match dd.k with
      | .int k => match ti T s with
        | some _ => match ev st.t x with | .int _ n => eConv k n K | _ => False
        | none => False
      | _ => False
    | none => False
  | .fieldAddr s x fi => match ev st.t x with
    | .ptr b i f => fieldAt T s fi fun off t => match ti T t with
      | some d => match Nat.beq d.size 0 with | true => False | false => K (.ptr b i (nAdd f (.l off)))
      | none => False
    | _ => False
  | .field s x fi => match ev st.t x with
    | .agg cs => fieldAt T s fi fun off t => partV T t cs off K
    | _ => False
  | .indexAddr t x ix => match ev st.t ix with
    | .int _ n => match ev st.t x with
      | .gp g i => eGlobAddr T t g i n K
      | v => eIndexAddr T t v n st.h K
    | _ => False
  | .index t x ix => match ev st.t ix with
    | .int _ n => match x with
      | .const v => match v with
        | .string s => eStrIndex T t s n K
        | _ => False
      | _ => eIndex T t (ev st.t x) n K
    | _ => False
  | .slice t x lo hi mx => eSlice T t st.t (ev st.t x) lo hi mx st.h K
  | .extract x i => match ev st.t x with
    | .tuple vs => match nth vs i with | some v => K v | none => False
    | _ => False
  | .makeFunc fn fs cs => K (.func fn (evs st.t fs.toList) (evs st.t cs.toList))
  | _ => False
def isPure : Op → Bool
  | .move _ => true | .assign _ => true | .pick .. => true | .build .. => true | .nilCheck _ => true | .binOp .. => true | .unOp .. => true
  | .convert .. => true | .fieldAddr .. => true | .field .. => true | .indexAddr .. => true | .index .. => true | .slice .. => true
  | .extract .. => true | .makeFunc .. => true
  | _ => false
/-- an operation that makes or changes memory, or calls -/
def eEff (T : Tab) (G : Env) (st : St) (o : Op) (K : AV → Heap → List Tch → Prop) : Prop :=
  match o with
  | .alloc t => match ti T t with
    | some d => zeroOf d fun v => contOf T t v fun c => push st.h ⟨true, c⟩ fun n h' => K (.ptr n (.l 0) (.l 0)) h' []
    | none => False
  | .box t x => contOf T t (ev st.t x) fun c => push st.h ⟨true, c⟩ fun n h' => K (.ptr n (.l 0) (.l 0)) h' []
  | .buildSlice t n ps => eBuildSlice T t n (parts st.t ps.toList) st.h fun v h' => K v h' []
  | .makeSlice t l c => eMakeSlice T t (ev st.t l) (ev st.t c) st.h fun v h' => K v h' []
  | .store t a x => eStore T t (ev st.t a) (ev st.t x) st.h fun h' tc => K (.tuple []) h' [tc]
  | .call c => match c.callee with
    | .builtin b => eBuiltin T b c.argTypes.toList (evs st.t c.args.toList) st.h K
    | .value f => match ev st.t f with
      | .func (.func g) fs cs => match lookC G g with
        | some C => eCall C (fs ++ evs st.t c.args.toList ++ cs) st.h K
        | none => False
      | _ => False
    | .invoke _ _ => False
  | _ => False
def put (t : List AV) (d : Option Nat) (v : AV) : List AV :=
  match d with
  | some i => upd t i v
  | none => t
/-- is the operation carried out? its guard's slot is known from here on -/
def eGuard (ops : List Oper) (st : St) (o : Oper) (yes no : St → Prop) : Prop :=
  match o.guard with
  | none => yes st
  | some (j, want) => match nth ops j with
    | some oj => match oj.dst with
      | some d => match nth st.t d with
        | some (.bool b) => match b with
          | .l x => (match x, want with | true, true => yes st | false, false => yes st | _, _ => no st)
          | .t f => Br f
            (fun _ => match want with | true => yes ⟨upd st.t d (.bool (.l true)), st.h⟩ | false => no ⟨upd st.t d (.bool (.l true)), st.h⟩)
            (fun _ => match want with | true => no ⟨upd st.t d (.bool (.l false)), st.h⟩ | false => yes ⟨upd st.t d (.bool (.l false)), st.h⟩)
        | some (.tuple []) => no st
        | _ => False
      | none => False
    | none => False
/-- data that nobody changes, as an object of its own -/
def mat (v : AV) (h : Heap) (K : AV → Heap → Prop) : Prop :=
  match v with
  | .ro sig l => push h ⟨false, .rows sig l⟩ fun n h' => K (.sl n (.l 0) (.l 0) (len sig) (.t fun _ => (l ()).length) (.t fun _ => (l ()).length) false) h'
  | v => K v h
/-- an operation, whichever; K: the state behind it, what it read, what it touched -/
def eStep (T : Tab) (G : Env) (st : St) (o : Oper) (K : St → List Tch → List Tch → Prop) : Prop :=
  match isPure o.op with
  | true => ePure T st o.op fun v => K ⟨put st.t o.dst v, st.h⟩ [] []
  | false => match o.op with
    | .load t a => eLoad T t (ev st.t a) st.h fun v r => mat v st.h fun v' h' => K ⟨put st.t o.dst v', h'⟩ [r] []
    | op => eEff T G st op fun v h' tc => K ⟨put st.t o.dst v, h'⟩ [] tc
/-- a row of a package's table -/
def eGlobLoad (T : Tab) (t g : Nat) (i : NX) (K : AV → Prop) : Prop :=
  match gtab g with
  | some p => match ti T t with
    | some d => match d.isAgg with
      | true => match Nat.beq d.size (len p.1) with
        | true => inN (ofNat i) (.l (len p.2)) fun _ => K (.agg (cellsOf (fun _ => p.2.getD i.v []) p.1 0))
        | false => False
      | false => False
    | none => False
  | none => False
def eOps (T : Tab) (G : Env) (all : List Oper) : List Oper → St → (St → Prop) → Prop
  | [], st, K => K st
  | o :: rest, st, K => eGuard all st o
      (fun st => match o.op with
        | .load t a => match ev st.t a with
          | .gp g i => eGlobLoad T t g i fun v => eOps T G all rest ⟨put st.t o.dst v, st.h⟩ K
          | _ => eStep T G st o fun st' _ _ => eOps T G all rest st' K
        | _ => eStep T G st o fun st' _ _ => eOps T G all rest st' K)
      (fun st => eOps T G all rest ⟨put st.t o.dst (.tuple []), st.h⟩ K)

/-! ### a region whose order Go leaves open -/
def bnd (e : Edge) : Bool := match e.ground with | .textOnly _ => false | .gcOnly _ => false | _ => true
def sat (done : List Nat) : List Edge → Bool
  | [] => true
  | e :: l => match bnd e with
    | false => sat done l
    | true => match memN done e.on with | true => sat done l | false => false
def num {α : Type} (n : Nat) : List α → List (Nat × α)
  | [] => []
  | a :: l => (n, a) :: num (n + 1) l
def del (n : Nat) : List (Nat × Oper) → List (Nat × Oper)
  | [] => []
  | p :: l => match Nat.beq p.1 n with | true => l | false => p :: del n l
def readys (done : List Nat) : List (Nat × Oper) → List (Nat × Oper)
  | [] => []
  | p :: l => match sat done p.2.after.toList with | true => p :: readys done l | false => readys done l
/-- does it wait for one of these? -/
def waitsFor (ds : List Nat) : List Edge → Bool
  | [] => false
  | e :: l => match bnd e with
    | false => waitsFor ds l
    | true => match memN ds e.on with | true => true | false => waitsFor ds l
/-- those of the operations left that wait for i, or for one that does -/
def followers (i : Nat) : List (Nat × Oper) → List Nat → List Nat
  | [], ds => ds
  | p :: l, ds => match waitsFor (i :: ds) p.2.after.toList with | true => followers i l (p.1 :: ds) | false => followers i l ds
structure Ob where
  deps : List Nat
  tch : Tch
def clashes (t : Tch) : List Tch → Bool
  | [] => false
  | u :: l => match t.clash u with | true => true | false => clashes t l
/-- what was read early stays as it was, as long as it may have been read late -/
def keeps (done : List Nat) (tc : List Tch) : List Ob → Bool
  | [] => true
  | o :: l => match anyIn o.deps done with
    | true => keeps done tc l
    | false => match clashes o.tch tc with | true => false | false => keeps done tc l
def isLoad : Op → Bool | .load .. => true | _ => false
def firstPure : List (Nat × Oper) → Option (Nat × Oper)
  | [] => none
  | p :: l => match isPure p.2.op with | true => some p | false => firstPure l
def firstLoad : List (Nat × Oper) → Option (Nat × Oper)
  | [] => none
  | p :: l => match isLoad p.2.op with | true => some p | false => firstLoad l
def obsOf (deps : List Nat) (obs : List Ob) : List Tch → List Ob
  | [] => obs
  | t :: l => ⟨deps, t⟩ :: obsOf deps obs l
def allOf (F : Nat × Oper → Prop) : List (Nat × Oper) → Prop
  | [] => True
  | [p] => F p
  | p :: l => F p ∧ allOf F l
/-- 'eff': the operations that change memory and are done, in the true order; pure ones and loads are taken early -/
def eAny (T : Tab) (G : Env) (all : List Oper) : Nat → List Nat → List Nat → List (Nat × Oper) → List Ob → St → (St → Prop) → Prop
  | 0, _, _, _, _, _, _ => False
  | n + 1, done, eff, left, obs, st, K =>
    match left with
    | [] => K st
    | _ => (fun rs : List (Nat × Oper) =>
      match firstPure rs with
      | some p => eGuard all st p.2
          (fun st => ePure T st p.2.op fun v => eAny T G all n (p.1 :: done) eff (del p.1 left) obs ⟨put st.t p.2.dst v, st.h⟩ K)
          (fun st => eAny T G all n (p.1 :: done) eff (del p.1 left) obs ⟨put st.t p.2.dst (.tuple []), st.h⟩ K)
      | none => match firstLoad rs with
        | some p => eGuard all st p.2
            (fun st => eStep T G st p.2 fun st' r _ => eAny T G all n (p.1 :: done) eff (del p.1 left) (obsOf (followers p.1 (del p.1 left) []) obs r) st' K)
            (fun st => eAny T G all n (p.1 :: done) eff (del p.1 left) obs ⟨put st.t p.2.dst (.tuple []), st.h⟩ K)
        | none => match rs with
          | [] => False
          | rs => allOf (fun p => eGuard all st p.2
              (fun st => eStep T G st p.2 fun st' _ tc => match keeps (p.1 :: eff) tc obs with
                | true => eAny T G all n (p.1 :: done) (p.1 :: eff) (del p.1 left) obs st' K
                | false => False)
              (fun st => eAny T G all n (p.1 :: done) (p.1 :: eff) (del p.1 left) obs ⟨put st.t p.2.dst (.tuple []), st.h⟩ K)) rs)
      (readys done left)

/-! ### code -/
inductive Ex | normal | exit (id : Nat) | ret
def maskT (keep : List Nat) : Nat → List AV → List AV
  | _, [] => []
  | i, a :: l => (match memN keep i with | true => a | false => .undef) :: maskT keep (i + 1) l
/-- the state with the slots that are kept, and the objects that they lead to; the first k stay where they are -/
def norm (keep : List Nat) (k : Nat) (st : St) : St :=
  (fun t => (fun m => ⟨renL (fun b => posN m b 0) t, mapH (fun b => posN m b 0) st.h m⟩) (reach st.h (len st.h) 0 (refsL (iota k 0) t))) (maskT keep 0 st.t)
/-! ### the same said in another way, or less -/
inductive SameI (x y : IX) : Prop | mk : x.v = y.v → SameI x y
inductive SameN (x y : NX) : Prop | mk : x.v = y.v → SameN x y
inductive SameB (x y : BX) : Prop | mk : x.v = y.v → SameB x y
inductive SameL (x y : Unit → List (List D)) : Prop | mk : x () = y () → SameL x y
inductive LeN (x y : NX) : Prop | mk : x.v ≤ y.v → LeN x y
inductive SameS (x y : List Kd) : Prop | mk : x = y → SameS x y
inductive SameK (x y : IntKind) : Prop | mk : x = y → SameK x y
inductive SameF (x y : Fn) : Prop | mk : x = y → SameF x y
inductive SameZ (x y : Nat) : Prop | mk : x = y → SameZ x y
def sK (a b : IntKind) : Prop := match kEq a b with | true => True | false => SameK a b
def sS (a b : List Kd) : Prop := match sigEq a b with | true => True | false => SameS a b
def sZ (a b : Nat) : Prop := match Nat.beq a b with | true => True | false => SameZ a b
def sF (a b : Fn) : Prop := match a with
  | .func f => match b with | .func g => (match Nat.beq f g with | true => True | false => SameF (.func f) (.func g)) | b => SameF (.func f) b
  | a => SameF a b
def sN (a b : NX) : Prop := match a with
  | .l x => (match b with | .l y => (match Nat.beq x y with | true => True | false => SameN (.l x) (.l y)) | b => SameN (.l x) b)
  | a => SameN a b
def sE (x' x : Bool) (c c' : NX) : Prop := match x' with | false => True | true => match x with | true => SameN c c' | false => False
mutual
def wv : AV → AV → Prop
  | .undef, b => match b with | .undef => True | _ => False
  | .bool x, b => match b with | .undef => True | .bool y => SameB x y | _ => False
  | .int k x, b => match b with | .undef => True | .int k' y => sK k k' ∧ SameI x y | _ => False
  | .nilp, b => match b with | .undef => True | .nilp => True | _ => False
  | .ptr o i f, b => match b with | .undef => True | .ptr o' i' f' => sZ o o' ∧ sN i i' ∧ sN f f' | _ => False
  | .nils, b => match b with | .undef => True | .nils => True | _ => False
  | .sl o i f z n c x, b => match b with
    | .undef => True
    | .sl o' i' f' z' n' c' x' => sZ o o' ∧ sN i i' ∧ sN f f' ∧ sZ z z' ∧ sN n n' ∧ LeN n' c' ∧ LeN c' c ∧ sE x' x c c'
    | _ => False
  | .ro sig l, b => match b with | .undef => True | .ro sig' l' => sS sig sig' ∧ SameL l l' | _ => False
  | .nilf, b => match b with | .undef => True | .nilf => True | _ => False
  | .func fn fs cs, b => match b with | .undef => True | .func fn' fs' cs' => sF fn fn' ∧ wvs fs fs' ∧ wvs cs cs' | _ => False
  | .agg cs, b => match b with | .undef => True | .agg cs' => wvs cs cs' | _ => False
  | .arr sig l, b => match b with | .undef => True | .arr sig' l' => sS sig sig' ∧ SameL l l' | _ => False
  | .tuple cs, b => match b with | .undef => True | .tuple cs' => wvs cs cs' | _ => False
  | .gp g i, b => match b with | .undef => True | .gp g' i' => sZ g g' ∧ sN i i' | _ => False
def wvs : List AV → List AV → Prop
  | [], m => match m with | [] => True | _ => False
  | a :: l, m => match m with | b :: m' => wv a b ∧ wvs l m' | [] => False
end
def wc : Cont → Cont → Prop
  | .cells l, c => match c with | .cells l' => wvs l l' | _ => False
  | .rows sig l, c => match c with | .rows sig' l' => sS sig sig' ∧ SameL l l' | _ => False
def sB (a b : Bool) : Prop := match a with | true => (match b with | true => True | false => False) | false => match b with | false => True | true => False
def wo : Option Obj → Option Obj → Prop
  | _, none => True
  | some o, some o' => sB o.mt o'.mt ∧ wc o.c o'.c
  | none, some _ => False
def whs : Heap → Heap → Prop
  | [], m => match m with | [] => True | _ => False
  | a :: l, m => match m with | b :: m' => wo a b ∧ whs l m' | [] => False
def gen (keep : List Nat) (k : Nat) (st st1 : St) : Prop := (fun s : St => wvs s.t st1.t ∧ whs s.h st1.h) (norm keep k st)
/-- what comes behind: named, so that it stands but once in the term -/
def seqQ (E : St → (Ex → St → Prop) → Prop) (Q : Ex → St → Prop) : Ex → St → Prop
  | .normal, st => E st Q
  | .exit i, st => Q (.exit i) st
  | .ret, st => Q .ret st
def blockQ (id : Nat) (Q : Ex → St → Prop) : Ex → St → Prop
  | .normal, st => Q .normal st
  | .exit i, st => match Nat.beq i id with | true => Q .normal st | false => Q (.exit i) st
  | .ret, st => Q .ret st
def iterQ (R : St → Prop) (Q : Ex → St → Prop) : Ex → St → Prop
  | .normal, st => R st
  | .exit i, st => Q (.exit i) st
  | .ret, st => Q .ret st
def eIter (B : St → (Ex → St → Prop) → Prop) (g : St → St → Prop) (Q : Ex → St → Prop) : Nat → St → Prop
  | 0, _ => False
  | n + 1, st => ∃ st1, g st st1 ∧ B st1 (iterQ (eIter B g Q n) Q)
/-- where a nil list stands: in a slot, in a cell of an object -/
inductive Nl | slot (j : Nat) (sig : List Kd) | cell (b f : Nat) (sig : List Kd)
def nilSl (h : Heap) (sig : List Kd) : AV := .sl (len h) (.l 0) (.l 0) (len sig) (.l 0) (.l 0) false
def nilOb (sig : List Kd) : Option Obj := some ⟨true, .rows sig fun _ => []⟩
/-- nil lists, said as objects of no rows -/
def nilify : List Nl → St → St
  | [], st => st
  | p :: g, st => match p with
    | .slot i sig => match nth st.t i with
      | some .nils => match Nat.blt 0 (len sig) with
        | true => nilify g ⟨upd st.t i (nilSl st.h sig), st.h ++ [nilOb sig]⟩
        | false => nilify g st
      | _ => nilify g st
    | .cell b f sig => match nth st.h b with
      | some (some o) => match o.c with
        | .cells l => match nth l f with
          | some .nils => match Nat.blt 0 (len sig) with
            | true => nilify g ⟨st.t, upd st.h b (some ⟨o.mt, .cells (upd l f (nilSl st.h sig))⟩) ++ [nilOb sig]⟩
            | false => nilify g st
          | _ => nilify g st
        | _ => nilify g st
      | _ => nilify g st
def eCode (T : Tab) (G : Env) (k : Nat) : Code → St → (Ex → St → Prop) → Prop
  | .skip, st, Q => Q .normal st
  | .region _ ops draw, st, Q => match draw with
    | false => eOps T G ops.toList ops.toList st (Q .normal)
    | true => eAny T G ops.toList (len ops.toList + 1) [] [] (num 0 ops.toList) [] st (Q .normal)
  | .seq a b, st, Q => eCode T G k a st (seqQ (eCode T G k b) Q)
  | .cond c x y, st, Q => match ev st.t c with
    | .bool b => match b with
      | .l true => eCode T G k x st Q
      | .l false => eCode T G k y st Q
      | .t f => Br f (fun _ => eCode T G k x st Q) fun _ => eCode T G k y st Q
    | _ => False
  | .block id c, st, Q => eCode T G k c st (blockQ id Q)
  | .loop c, st, Q => ∃ (n : Nat) (keep : List Nat) (g : List Nl), eIter (eCode T G k c) (gen keep k) Q n (nilify g st)
  | .exit id, st, Q => Q (.exit id) st
  | .ret, st, Q => Q .ret st
  | _, _, _ => False
/-! ### results -/
def eRes (T : Tab) (st : St) : List ResultVar → (List AV → Prop) → Prop
  | [], K => K []
  | .tmp t :: l, K => match nth st.t t with
    | some v => eRes T st l fun vs => K (v :: vs)
    | none => False
  | .cell a t :: l, K => match nth st.t a with
    | some v => eLoad T t v st.h fun v _ => eRes T st l fun vs => K (v :: vs)
    | none => False
def one (vs : List AV) : AV := match vs with | [v] => v | vs => .tuple vs
def eRet (T : Tab) (k : Nat) (rs : List ResultVar) (K : AV → Heap → Prop) : Ex → St → Prop
  | .exit _, _ => False
  | _, st => eRes T st rs fun vs =>
      (fun m => K (renV (fun b => posN m b 0) (one vs)) (mapH (fun b => posN m b 0) st.h m))
        (reach st.h (len st.h) 0 (refsV (iota k 0) (one vs)))
def undefs : Nat → List AV
  | 0 => []
  | n + 1 => .undef :: undefs n
/-- the whole function -/
def eFunc (T : Tab) (G : Env) (body : Code) (ntmps : Nat) (rs : List ResultVar) (args : List AV) (h : Heap) (K : AV → Heap → Prop) : Prop :=
  eCode T G (len h) body ⟨args ++ undefs (ntmps - len args), h⟩ (eRet T (len h) rs K)
end Go.Sy
end

section
/- The relation between abstract and true states, and that it lasts while owned memory alone is written. -/
namespace Go.Sy

theorem nth_eq {α : Type} : ∀ (l : List α) (i : Nat), nth l i = l[i]?
  | [], _ => rfl
  | _ :: _, 0 => rfl
  | _ :: l, i + 1 => by simpa [nth] using nth_eq l i
theorem len_eq {α : Type} : ∀ (l : List α), len l = l.length
  | [] => rfl
  | _ :: l => by simp [len, len_eq l]
theorem upd_eq {α : Type} : ∀ (l : List α) (i : Nat) (b : α), upd l i b = l.set i b
  | [], _, _ => rfl
  | _ :: _, 0, _ => rfl
  | a :: l, i + 1, b => by simp [upd, upd_eq l i b]
theorem nth_upd {α : Type} (l : List α) (i j : Nat) (b : α) : nth (upd l i b) j = if i = j then (nth l j).map (fun _ => b) else nth l j := by
  simp only [nth_eq, upd_eq, List.getElem?_set]
  split
  · subst_vars; split <;> simp_all
  · rfl
theorem nth_append {α : Type} (l m : List α) (j : Nat) : nth (l ++ m) j = if j < l.length then nth l j else nth m (j - l.length) := by
  simp only [nth_eq, List.getElem?_append]
theorem nth_some_lt {α : Type} {l : List α} {j : Nat} {a : α} (h : nth l j = some a) : j < l.length := by
  rw [nth_eq] at h; exact (List.getElem?_eq_some_iff.1 h).1
theorem nth_prefix {α : Type} {l m : List α} (h : l <+: m) {j : Nat} {a : α} (hj : nth l j = some a) : nth m j = some a := by
  obtain ⟨t, rfl⟩ := h
  rw [nth_append, if_pos (nth_some_lt hj), hj]

structure Sit where
  w : World
  base : List (Option Addr × Nat)
  own : Nat → Prop
  hid : Nat → Prop
def Sit.ok (s : Sit) (b : Nat) : Prop := ¬ s.own b ∧ ¬ s.hid b ∧ b < s.w.heap.size

inductive DRel (s : Sit) : Kd → D → Value → Prop
  | int (k : IntKind) (n : Int) : DRel s (.int k) (.i n) (.int k n)
  | bool (b : Bool) : DRel s .bool (.b b) (.bool b)
  | nil (sig : List Kd) (a : Option Addr) (cap : Nat) : 0 < sig.length → (cap = 0 ∨ ∃ b o t m, a = some ⟨b, o, none⟩ ∧ s.ok b ∧ s.w.shape? b = some (t, m) ∧ o + cap * sig.length ≤ m) → DRel s (.sl sig) (.s []) (.slice a 0 cap)
  | sl (sig : List Kd) (rows : List (List D)) (blk off cap : Nat) (val : Nat → Nat → Value) : s.ok blk → 0 < sig.length → rows ≠ [] → rows.length ≤ cap → (∃ t m, s.w.shape? blk = some (t, m) ∧ off + cap * sig.length ≤ m) →
      (∀ (i : Nat) (r : List D), nth rows i = some r → r.length = sig.length) →
      (∀ (i j : Nat) (r : List D) (k : Kd) (d : D), nth rows i = some r → nth sig j = some k → nth r j = some d → s.w.cell? ⟨blk, off + (i * sig.length + j), none⟩ = some (val i j)) →
      (∀ (i j : Nat) (r : List D) (k : Kd) (d : D), nth rows i = some r → nth sig j = some k → nth r j = some d → DRel s k d (val i j)) →
      DRel s (.sl sig) (.s rows) (.slice (some ⟨blk, off, none⟩) rows.length cap)

def DIn (s : Sit) (sig : List Kd) (g : Nat → Option Value) (rows : List (List D)) : Prop :=
  (∀ (i : Nat) (r : List D), nth rows i = some r → r.length = sig.length) ∧
  ∀ (i j : Nat) (r : List D) (k : Kd) (d : D), nth rows i = some r → nth sig j = some k → nth r j = some d → ∃ v, g (i * sig.length + j) = some v ∧ DRel s k d v

/-- the address of a place of an object -/
def Sit.place (s : Sit) (b i f : Nat) (ad : Addr) : Prop :=
  ∃ a sz, nth s.base b = some (some a, sz) ∧ a.spot = none ∧ ad = ⟨a.block, a.off + (i * sz + f), none⟩
mutual
def VRel (s : Sit) : AV → Value → Prop
  | .undef, _ => True
  | .bool b, v => v = .bool b.v
  | .int k n, v => v = .int k n.v
  | .nilp, v => v = .pointer none
  | .ptr b i f, v => ∃ ad, s.place b i.v f.v ad ∧ v = .pointer (some ad)
  | .nils, v => v = .slice none 0 0
  | .sl b i f z n c ex, v => ∃ (a : Option Addr) (cap : Nat), v = .slice a n.v cap ∧ n.v ≤ c.v ∧ c.v ≤ cap ∧ (ex = true → cap = c.v) ∧ 0 < z ∧ b < s.base.length ∧
      (cap = 0 ∨ ∃ ad, a = some ad ∧ s.place b i.v f.v ad ∧ ∃ t m, s.w.shape? ad.block = some (t, m) ∧ ad.off + cap * z ≤ m)
  | .ro sig l, v => DRel s (.sl sig) (.s (l ())) v
  | .nilf, v => v = .nilFunc
  | .func fn fs cs, v => ∃ a b, v = .func fn a b ∧ VRels s fs a.toList ∧ VRels s cs b.toList
  | .agg cs, v => ∃ a, v = .agg a ∧ VRels s cs a.toList
  | .arr sig l, v => ∃ a, v = .agg a ∧ a.size = (l ()).length * sig.length ∧ 0 < sig.length ∧ DIn s sig (fun n => a[n]?) (l ())
  | .tuple cs, v => ∃ a, v = .tuple a ∧ VRels s cs a.toList
  | .gp g i, v => match gtab g with | some p => v = .pointer (some ⟨g, i.v * p.1.length, none⟩) | none => False
def VRels (s : Sit) : List AV → List Value → Prop
  | [], vs => vs = []
  | a :: l, vs => ∃ v r, vs = v :: r ∧ VRel s a v ∧ VRels s l r
end

theorem VRels.length {s : Sit} : ∀ {l : List AV} {vs : List Value}, VRels s l vs → vs.length = l.length
  | [], vs, h => by simp [VRels] at h; simp [h]
  | a :: l, vs, h => by
    simp only [VRels] at h
    obtain ⟨v, r, rfl, _, h⟩ := h
    simp [VRels.length h]
theorem VRels.nth {s : Sit} : ∀ {l : List AV} {vs : List Value}, VRels s l vs → ∀ {i a}, nth l i = some a → ∃ v, vs[i]? = some v ∧ VRel s a v
  | [], _, _, i, a, h => by simp [Sy.nth] at h
  | b :: l, vs, h, 0, a, ha => by
    simp only [VRels] at h
    obtain ⟨v, r, rfl, hv, _⟩ := h
    simp only [Sy.nth, Option.some.injEq] at ha
    exact ⟨v, rfl, ha ▸ hv⟩
  | b :: l, vs, h, i + 1, a, ha => by
    simp only [VRels] at h
    obtain ⟨v, r, rfl, _, h⟩ := h
    obtain ⟨u, hu, hr⟩ := VRels.nth h (i := i) (a := a) (by simpa [Sy.nth] using ha)
    exact ⟨u, by simpa using hu, hr⟩
theorem VRels.mk {s : Sit} : ∀ {l : List AV} {vs : List Value}, vs.length = l.length → (∀ i a, Sy.nth l i = some a → ∃ v, vs[i]? = some v ∧ VRel s a v) → VRels s l vs
  | [], vs, h, _ => by simp [VRels]; simpa using h
  | a :: l, [], h, _ => by simp at h
  | a :: l, v :: vs, h, hn => by
    simp only [VRels]
    refine ⟨v, vs, rfl, ?_, VRels.mk (by simpa using h) fun i b hb => ?_⟩
    · obtain ⟨u, hu, hr⟩ := hn 0 a rfl
      simp at hu; exact hu ▸ hr
    · obtain ⟨u, hu, hr⟩ := hn (i + 1) b (by simpa [Sy.nth] using hb)
      exact ⟨u, by simpa using hu, hr⟩
theorem VRels.append {s : Sit} {l m : List AV} {vs us : List Value} (h : VRels s l vs) (h' : VRels s m us) : VRels s (l ++ m) (vs ++ us) := by
  refine VRels.mk (by simp [h.length, h'.length]) fun i a ha => ?_
  rw [nth_append] at ha
  split at ha
  · obtain ⟨v, hv, hr⟩ := h.nth ha
    exact ⟨v, by rw [List.getElem?_append_left (by rw [h.length]; assumption)]; exact hv, hr⟩
  · obtain ⟨v, hv, hr⟩ := h'.nth ha
    exact ⟨v, by rw [List.getElem?_append_right (by rw [h.length]; omega), h.length]; exact hv, hr⟩

def CellsIn (s : Sit) (g : Nat → Option Value) (l : List AV) : Prop := ∀ j a, nth l j = some a → ∃ v, g j = some v ∧ VRel s a v
def Flags (s : Sit) (mt : Bool) (b : Nat) : Prop :=
  b < s.w.heap.size ∧ match mt with
    | true => s.own b ∧ ∀ o, s.w.frozen? ⟨b, o, none⟩ = false
    | false => ¬ s.own b
def Sit.mem (s : Sit) (ad : Addr) (n : Nat) : Option Value := s.w.cell? ⟨ad.block, ad.off + n, none⟩
def ORel (s : Sit) (j : Nat) (o : Obj) : Prop :=
  ∃ ab sz, nth s.base j = some (ab, sz) ∧ match o.c with
    | .cells l => ∃ ad, ab = some ad ∧ ad.spot = none ∧ CellsIn s (s.mem ad) l ∧ Flags s o.mt ad.block
    | .rows sig l => sz = sig.length ∧ 0 < sig.length ∧ ((ab = none ∧ l () = []) ∨ ∃ ad, ab = some ad ∧ ad.spot = none ∧ DIn s sig (s.mem ad) (l ()) ∧ Flags s o.mt ad.block)
/-- the packages' tables hold what they hold -/
def Fix (s : Sit) : Prop := ∀ g sig rows, gtab g = some (sig, rows) → ¬ s.own g ∧ g < s.w.heap.size ∧ DIn s sig (fun n => s.w.cell? ⟨g, n, none⟩) rows
structure HRel (s : Sit) (h : Heap) : Prop where
  len : s.base.length = h.length
  obj : ∀ j o, nth h j = some (some o) → ORel s j o
  inj : ∀ j k o q a b z y, nth h j = some (some o) → nth h k = some (some q) → o.mt = true → q.mt = true → nth s.base j = some (some a, z) → nth s.base k = some (some b, y) →
    a.block = b.block → j = k
  ownlt : ∀ b, s.own b → b < s.w.heap.size
  hidlt : ∀ b, s.hid b → b < s.w.heap.size
  apart : ∀ b, s.own b → ¬ s.hid b
  fix : Fix s

/-- From one situation to a later one: what is not owned stays as it was. -/
structure Ev (s s' : Sit) : Prop where
  size : s.w.heap.size ≤ s'.w.heap.size
  keep : ∀ b, b < s.w.heap.size → ¬ s.own b → s'.w.heap[b]? = s.w.heap[b]?
  shape : ∀ b, b < s.w.heap.size → s'.w.shape? b = s.w.shape? b
  own : ∀ b, s'.own b → s.own b ∨ s.w.heap.size ≤ b
  hid : s'.hid = s.hid
  wos : s'.w.os = s.w.os
  wout : s'.w.output = s.w.output
theorem Ev.refl (s : Sit) : Ev s s := ⟨Nat.le_refl _, fun _ _ _ => rfl, fun _ _ => rfl, fun _ h => .inl h, rfl, rfl, rfl⟩
theorem Ev.trans {s s' s'' : Sit} (h : Ev s s') (h' : Ev s' s'') : Ev s s'' where
  size := Nat.le_trans h.size h'.size
  keep b hb ho := by
    rw [h'.keep b (Nat.lt_of_lt_of_le hb h.size) (fun ho' => by
      rcases h.own b ho' with h1 | h1
      · exact ho h1
      · omega)]
    exact h.keep b hb ho
  shape b hb := by rw [h'.shape b (Nat.lt_of_lt_of_le hb h.size)]; exact h.shape b hb
  own b hb := by
    rcases h'.own b hb with h1 | h1
    · exact h.own b h1
    · exact .inr (Nat.le_trans h.size h1)
  hid := by rw [h'.hid, h.hid]
  wos := by rw [h'.wos, h.wos]
  wout := by rw [h'.wout, h.wout]
theorem Ev.ok {s s' : Sit} (h : Ev s s') {b : Nat} (hb : s.ok b) : s'.ok b :=
  ⟨fun ho => by rcases h.own b ho with h1 | h1; exact hb.1 h1; have := hb.2.2; omega, by rw [h.hid]; exact hb.2.1, Nat.lt_of_lt_of_le hb.2.2 h.size⟩
theorem cell?_congr {w w' : World} {b : Nat} (h : w'.heap[b]? = w.heap[b]?) (o : Nat) : w'.cell? ⟨b, o, none⟩ = w.cell? ⟨b, o, none⟩ := by
  simp [World.cell?, h]
theorem frozen?_congr {w w' : World} {b : Nat} (h : w'.heap[b]? = w.heap[b]?) (o : Nat) : w'.frozen? ⟨b, o, none⟩ = w.frozen? ⟨b, o, none⟩ := by
  simp [World.frozen?, h]

theorem DRel.mono {s s' : Sit} (hE : Ev s s') {k : Kd} {d : D} {v : Value} (h : DRel s k d v) : DRel s' k d v := by
  induction h with
  | int k n => exact .int k n
  | bool b => exact .bool b
  | nil sig a cap h0 h => exact .nil sig a cap h0 (h.imp id fun ⟨b, o, t, m, h1, h2, h3, h4⟩ => ⟨b, o, t, m, h1, hE.ok h2, by rw [hE.shape b h2.2.2]; exact h3, h4⟩)
  | sl sig rows blk off cap val hok hz hne hcap hsh hl hc _ ih =>
    exact .sl sig rows blk off cap val (hE.ok hok) hz hne hcap (hsh.imp fun t h => h.imp fun m h => ⟨by rw [hE.shape blk hok.2.2]; exact h.1, h.2⟩) hl (fun i j r k d h1 h2 h3 => by
      rw [cell?_congr (hE.keep blk hok.2.2 hok.1)]; exact hc i j r k d h1 h2 h3) ih
theorem DIn.mono {s s' : Sit} (hE : Ev s s') {sig : List Kd} {g g' : Nat → Option Value} {rows : List (List D)} (h : DIn s sig g rows)
    (hg : ∀ n, g' n = g n) : DIn s' sig g' rows :=
  ⟨h.1, fun i j r k d h1 h2 h3 => let ⟨v, hv, hd⟩ := h.2 i j r k d h1 h2 h3; ⟨v, by rw [hg]; exact hv, hd.mono hE⟩⟩
theorem Sit.place.mono {s s' : Sit} (hp : s.base <+: s'.base) {b i f : Nat} {ad : Addr} (h : s.place b i f ad) : s'.place b i f ad := by
  obtain ⟨a, z, h1, h2⟩ := h
  exact ⟨a, z, nth_prefix hp h1, h2⟩
theorem shape_lt {w : World} {b : Nat} {x : TypeId × Nat} (h : w.shape? b = some x) : b < w.heap.size := by
  unfold World.shape? at h
  by_cases hb : b < w.heap.size
  · exact hb
  · rw [Array.getElem?_eq_none (by omega)] at h; simp at h
mutual
theorem VRel.mono {s s' : Sit} (hE : Ev s s') (hp : s.base <+: s'.base) : ∀ (a : AV) (v : Value), VRel s a v → VRel s' a v
  | .undef, _, _ => by simp [VRel]
  | .bool b, v, h => by simpa [VRel] using h
  | .int k n, v, h => by simpa [VRel] using h
  | .nilp, v, h => by simpa [VRel] using h
  | .nils, v, h => by simpa [VRel] using h
  | .nilf, v, h => by simpa [VRel] using h
  | .ptr b i f, v, h => by
    simp only [VRel] at h ⊢
    obtain ⟨ad, h1, h2⟩ := h
    exact ⟨ad, h1.mono hp, h2⟩
  | .sl b i f z n c ex, v, h => by
    simp only [VRel] at h ⊢
    obtain ⟨a, cap, h1, h2, h3, h4, h5, h6, h7⟩ := h
    refine ⟨a, cap, h1, h2, h3, h4, h5, Nat.lt_of_lt_of_le h6 (by obtain ⟨t, ht⟩ := hp; rw [← ht]; simp), ?_⟩
    rcases h7 with h7 | ⟨ad, ha, hpl, t, m, hs, hm⟩
    · exact .inl h7
    · exact .inr ⟨ad, ha, hpl.mono hp, t, m, by rw [hE.shape _ (shape_lt hs)]; exact hs, hm⟩
  | .ro sig l, v, h => by simp only [VRel] at h ⊢; exact h.mono hE
  | .func fn fs cs, v, h => by
    simp only [VRel] at h ⊢
    obtain ⟨a, b, h1, h2, h3⟩ := h
    exact ⟨a, b, h1, VRels.mono hE hp _ _ h2, VRels.mono hE hp _ _ h3⟩
  | .agg cs, v, h => by
    simp only [VRel] at h ⊢
    obtain ⟨a, h1, h2⟩ := h
    exact ⟨a, h1, VRels.mono hE hp _ _ h2⟩
  | .arr sig l, v, h => by
    simp only [VRel] at h ⊢
    obtain ⟨a, h1, h2, h0, h3⟩ := h
    exact ⟨a, h1, h2, h0, h3.mono hE fun _ => rfl⟩
  | .tuple cs, v, h => by
    simp only [VRel] at h ⊢
    obtain ⟨a, h1, h2⟩ := h
    exact ⟨a, h1, VRels.mono hE hp _ _ h2⟩
  | .gp g i, v, h => by simpa only [VRel] using h
theorem VRels.mono {s s' : Sit} (hE : Ev s s') (hp : s.base <+: s'.base) : ∀ (l : List AV) (vs : List Value), VRels s l vs → VRels s' l vs
  | [], vs, h => by simpa [VRels] using h
  | a :: l, vs, h => by
    simp only [VRels] at h ⊢
    obtain ⟨v, r, h1, h2, h3⟩ := h
    exact ⟨v, r, h1, VRel.mono hE hp _ _ h2, VRels.mono hE hp _ _ h3⟩
end
theorem Fix.ev {s s' : Sit} (h : Fix s) (hE : Ev s s') : Fix s' := fun g sig rows hg => by
  obtain ⟨h1, h2, h3⟩ := h g sig rows hg
  refine ⟨fun ho => ?_, Nat.lt_of_lt_of_le h2 hE.size, h3.mono hE fun n => cell?_congr (hE.keep g h2 h1) n⟩
  rcases hE.own g ho with h4 | h4
  · exact h1 h4
  · omega
theorem CellsIn.mono {s s' : Sit} (hE : Ev s s') (hp : s.base <+: s'.base) {g g' : Nat → Option Value} {l : List AV} (h : CellsIn s g l) (hg : ∀ n, g' n = g n) : CellsIn s' g' l :=
  fun j a ha => let ⟨v, hv, hr⟩ := h j a ha; ⟨v, by rw [hg]; exact hv, VRel.mono hE hp _ _ hr⟩
end Go.Sy
end

section
/- Soundness: plain operations. -/
namespace Go.Sy
set_option linter.unusedSimpArgs false
set_option linter.unusedVariables false

def ZRel (a : AV) (v : Value) : Prop := v.oneCell' = true ∧ ∀ s, VRel s a v
def ZRels : List AV → List Value → Prop
  | [], vs => vs = []
  | a :: l, vs => ∃ v r, vs = v :: r ∧ ZRel a v ∧ ZRels l r
def KOk (P : Program) : TK → TypeDesc → Prop
  | .int k, d => d = .int k
  | .bool, d => d = .bool
  | .slice e, d => d = .slice e
  | .array n e, d => d = .array n e
  | .struct fs, d => ∃ fields : Array Field, d = .struct fields ∧ fields.toList.map (fun f => (f.offset, f.type)) = fs ∧ ∀ f ∈ fields.toList, (P.info? f.type).isSome = true
  | .ptr e, d => d = .pointer e
  | .func, d => ∃ a b c, d = .func a b c
  | .str, d => d = .string
  | .other, d => False
structure TOk (P : Program) (t : Nat) (d : TD) : Prop where
  info : ∃ i z, P.info? t = some i ∧ i.size = d.size ∧ i.bytes = d.bytes ∧ i.zero = some z ∧ z.cells.size = d.size ∧ ZRels d.zero z.cells.toList ∧ (d.isAgg = true → z = .agg z.cells) ∧ (d.isAgg = false → z.cells = #[z])
  under : ∃ desc, P.underlying t = some desc ∧ KOk P d.k desc
def TabOk (P : Program) (T : Tab) : Prop := ∀ t d, T t = some d → TOk P t d

section
variable {P : Program} {T : Tab} {t : Nat} {d : TD}
theorem run_under {desc : TypeDesc} (h : P.underlying t = some desc) (w : World) : (underlying t).run P w = .ok desc w := by
  simp [underlying, h]
theorem TOk.size (h : TOk P t d) (w : World) : (sizeOf t).run P w = .ok d.size w := by
  obtain ⟨i, z, hi, hs, _⟩ := h.info
  simp [sizeOf, typeInfo, hi, hs]
theorem TOk.bytes (h : TOk P t d) (w : World) : ∃ i, (typeInfo t).run P w = .ok i w ∧ i.bytes = d.bytes ∧ i.size = d.size := by
  obtain ⟨i, z, hi, hs, hb, _⟩ := h.info
  exact ⟨i, by simp [typeInfo, hi], hb, hs⟩
theorem TOk.zero (h : TOk P t d) (w : World) : ∃ z, (zeroValue t).run P w = .ok z w ∧ z.cells.size = d.size ∧ ZRels d.zero z.cells.toList ∧ (d.isAgg = true → z = .agg z.cells) ∧ (d.isAgg = false → z.cells = #[z]) := by
  obtain ⟨i, z, hi, hs, hb, hz, h1, h2, h3, h4⟩ := h.info
  exact ⟨z, by simp [zeroValue, typeInfo, hi, hz], h1, h2, h3, h4⟩
theorem TOk.isAgg (h : TOk P t d) (w : World) : (Go.isAgg t).run P w = .ok d.isAgg w := by
  obtain ⟨desc, hu, hk⟩ := h.under
  cases hd : d.k <;> rw [hd] at hk <;> simp only [KOk] at hk <;> try exact hk.elim
  all_goals first
    | (subst hk; simp [Go.isAgg, run_under hu, TD.isAgg, hd])
    | (obtain ⟨f, rfl, _, _⟩ := hk; simp [Go.isAgg, run_under hu, TD.isAgg, hd])
    | (obtain ⟨a, b, c, rfl⟩ := hk; simp [Go.isAgg, run_under hu, TD.isAgg, hd])
end

theorem ZRels.length : ∀ {l : List AV} {vs : List Value}, ZRels l vs → vs.length = l.length
  | [], _, h => by simp [ZRels] at h; simp [h]
  | a :: l, _, h => by
    simp only [ZRels] at h
    obtain ⟨v, r, rfl, _, h⟩ := h
    simp [ZRels.length h]
theorem ZRels.rels (s : Sit) : ∀ {l : List AV} {vs : List Value}, ZRels l vs → VRels s l vs
  | [], _, h => by simpa [VRels, ZRels] using h
  | a :: l, _, h => by
    simp only [ZRels, VRels] at h ⊢
    obtain ⟨v, r, rfl, h1, h⟩ := h
    exact ⟨v, r, rfl, h1.2 s, ZRels.rels s h⟩

/-! ### what an operand is -/
theorem avC_rel (s : Sit) : ∀ v : Value, VRel s (avC v) v
  | .bool b => by simp [avC, VRel, BX.v]
  | .int k n => by simp [avC, VRel, IX.v]
  | .pointer none => by simp [avC, VRel]
  | .slice none 0 0 => by simp [avC, VRel]
  | .nilFunc => by simp [avC, VRel]
  | .pointer (some _) => by simp [avC, VRel]
  | .slice (some _) _ _ => by simp [avC, VRel]
  | .slice none (_ + 1) _ => by simp [avC, VRel]
  | .slice none 0 (_ + 1) => by simp [avC, VRel]
  | .float _ _ => by simp [avC, VRel]
  | .complex _ _ _ => by simp [avC, VRel]
  | .string _ => by simp [avC, VRel]
  | .map _ => by simp [avC, VRel]
  | .chan _ => by simp [avC, VRel]
  | .func _ _ _ => by simp [avC, VRel]
  | .iface _ _ => by simp [avC, VRel]
  | .nilIface => by simp [avC, VRel]
  | .agg _ => by simp [avC, VRel]
  | .tuple _ => by simp [avC, VRel]
theorem avCs_rel (s : Sit) : ∀ vs : List Value, VRels s (vs.map avC) vs
  | [] => by simp [VRels]
  | v :: vs => by simp only [List.map_cons, VRels]; exact ⟨v, vs, rfl, avC_rel s v, avCs_rel s vs⟩
theorem avK_rel (s : Sit) (v : Value) : VRel s (avK v) v := by
  unfold avK
  split
  · simp only [VRel]; exact ⟨_, rfl, avCs_rel s _⟩
  · exact avC_rel s v
section
variable {s : Sit} {st : St} {a : Act}
theorem ev_rel {t : List AV} (ht : VRels s t a.tmps.toList) (x : Operand) : VRel s (ev t x) (a.eval x) := by
  cases x with
  | tmp i =>
    simp only [ev, Act.eval]
    cases hn : nth t i with
    | none => simp [VRel]
    | some v =>
      obtain ⟨u, hu, hr⟩ := ht.nth hn
      have : a.tmps.getD i undef = u := by
        simp only [Array.getElem?_toList] at hu
        simp [Array.getD_eq_getD_getElem?, hu]
      simpa [this] using hr
  | const v => exact avK_rel s v
  | func f => simp [ev, Act.eval, VRel, VRels]
  | global g =>
    simp only [ev, Act.eval]
    split
    · rename_i p hp; simp [VRel, hp, NX.v]
    · simp [VRel]
theorem evs_rel {t : List AV} (ht : VRels s t a.tmps.toList) : ∀ l : List Operand, VRels s (evs t l) (l.map a.eval)
  | [] => by simp [evs, VRels]
  | x :: l => by simp only [evs, List.map_cons, VRels]; exact ⟨_, _, rfl, ev_rel ht x, evs_rel ht l⟩
end

/-! ### arithmetic -/
theorem wrap_inR {k : IntKind} {n : Int} (h : inR k n = true) : k.wrap n = n := by
  simp only [inR, Bool.and_eq_true, decide_eq_true_eq] at h
  obtain ⟨h1, h2⟩ := h
  cases k <;> simp only [IntKind.min, IntKind.max, IntKind.signed, IntKind.bits, IntKind.wrap] at * <;> simp at * <;> omega
theorem ix2_v (g : AOp) (a b : IX) : (ix2 g a b).v = aop g a.v b.v := by cases a <;> cases b <;> rfl
theorem bx2_v (g : COp) (a b : IX) : (bx2 g a b).v = cop g a.v b.v := by cases a <;> cases b <;> rfl
theorem bNot_v (b : BX) : (bNot b).v = !b.v := by cases b <;> rfl
theorem bEq_v (a b : BX) : (bEq a b).v = (a.v == b.v) := by
  unfold bEq
  split
  · simp [BX.v]
  · rw [bNot_v]; simp [BX.v]
  · split <;> simp_all [BX.v, bnot, beqv]
/-- what some arithmetic comes to: a value that is told by the abstract one, whatever the situation -/
def Gets (P : Program) (x : Sem Value) (K : AV → Prop) : Prop := ∃ av v, (∀ w, x.run P w = .ok v w) ∧ (∀ s, VRel s av v) ∧ K av
theorem gets_int {P : Program} {x : Sem Value} {K : AV → Prop} {k : IntKind} {n : IX} (h : ∀ w, x.run P w = .ok (.int k n.v) w) (hK : K (.int k n)) : Gets P x K :=
  ⟨.int k n, _, h, fun s => by simp [VRel], hK⟩
theorem gets_bool {P : Program} {x : Sem Value} {K : AV → Prop} {b : BX} (h : ∀ w, x.run P w = .ok (.bool b.v) w) (hK : K (.bool b)) : Gets P x K :=
  ⟨.bool b, _, h, fun s => by simp [VRel], hK⟩
theorem fit_gets {P : Program} {x : Sem Value} {K : AV → Prop} {k : IntKind} {r : IX} (h : fit k r K) (hr : ∀ w, x.run P w = .ok (.int k (k.wrap r.v)) w) : Gets P x K := by
  unfold fit at h
  split at h
  · exact gets_int (n := .l _) (by simpa [IX.v] using hr) h
  · split at h
    · cases h with
      | mk h1 h2 =>
        refine gets_int (n := .t _) (fun w => ?_) h2
        rw [hr w]
        simp only [IX.v]
        rw [wrap_inR h1]
    · exact gets_int (n := .t _) (by simpa [IX.v] using hr) h
theorem bits_run (P : Program) (op : BinOp) (h : op = .and ∨ op = .or ∨ op = .xor ∨ op = .andNot) (k : IntKind) (x y : Int) (w : World) :
    (Op.intBits op k x y).run P w = .ok (.int k (bitsI op k x y)) w := by
  rcases h with rfl | rfl | rfl | rfl <;> simp [Op.intBits, bitsI]
theorem shl_run (P : Program) (t : TypeId) (k k' : IntKind) (x y : Int) (hy : 0 ≤ y) (w : World) : (binOp .shl t (.int k x) (.int k' y)).run P w = .ok (.int k (shlI k x y)) w := by
  simp only [binOp, Op.shift]
  rw [if_neg (by omega)]; rfl
theorem shr_run (P : Program) (t : TypeId) (k k' : IntKind) (x y : Int) (hy : 0 ≤ y) (w : World) : (binOp .shr t (.int k x) (.int k' y)).run P w = .ok (.int k (shrI k x y)) w := by
  simp only [binOp, Op.shift]
  rw [if_neg (by omega)]; rfl
theorem quo_run (P : Program) (t : TypeId) (k : IntKind) (x y : Int) (hy : y ≠ 0) (w : World) : (binOp .quo t (.int k x) (.int k y)).run P w = .ok (.int k (k.wrap (x.tdiv y))) w := by
  simp [binOp, Op.intDiv, hy]
theorem rem_run (P : Program) (t : TypeId) (k : IntKind) (x y : Int) (hy : y ≠ 0) (w : World) : (binOp .rem t (.int k x) (.int k y)).run P w = .ok (.int k (x.tmod y)) w := by
  simp [binOp, Op.intDiv, hy]
theorem eInt_gets {P : Program} {op : BinOp} {k k' : IntKind} {a b : IX} {K : AV → Prop} (t : TypeId) (hk : op ≠ .shl → op ≠ .shr → k = k') (h : eInt op k a b K) :
    Gets P (binOp op t (.int k a.v) (.int k' b.v)) K := by
  cases op with
  | shl =>
    simp only [eInt] at h
    split at h
    · rename_i y
      split at h
      · rename_i hy
        have hy := of_decide_eq_true hy
        exact gets_int (fun w => by rw [ix2_v]; exact shl_run P t k k' _ _ hy w) h
      · exact h.elim
    · rename_i y
      cases h with
      | mk hy h =>
        exact gets_int (fun w => by rw [ix2_v]; exact shl_run P t k k' _ _ hy w) h
  | shr =>
    simp only [eInt] at h
    split at h
    · rename_i y
      split at h
      · rename_i hy
        have hy := of_decide_eq_true hy
        exact gets_int (fun w => by rw [ix2_v]; exact shr_run P t k k' _ _ hy w) h
      · exact h.elim
    · rename_i y
      cases h with
      | mk hy h =>
        exact gets_int (fun w => by rw [ix2_v]; exact shr_run P t k k' _ _ hy w) h
  | add => simp only [eInt] at h; obtain rfl := hk (by simp) (by simp); exact fit_gets h fun w => by simp [binOp, Op.intArith, ix2_v, aop]
  | sub => simp only [eInt] at h; obtain rfl := hk (by simp) (by simp); exact fit_gets h fun w => by simp [binOp, Op.intArith, ix2_v, aop]
  | mul => simp only [eInt] at h; obtain rfl := hk (by simp) (by simp); exact fit_gets h fun w => by simp [binOp, Op.intArith, ix2_v, aop]
  | quo =>
    simp only [eInt] at h
    obtain rfl := hk (by simp) (by simp)
    split at h
    · rename_i y
      split at h
      · exact h.elim
      · rename_i hy
        have hy0 : y ≠ 0 := of_decide_eq_false hy
        exact fit_gets h fun w => by rw [ix2_v]; exact quo_run P t k _ _ hy0 w
    · rename_i y
      cases h with
      | mk hy h => exact fit_gets h fun w => by rw [ix2_v]; exact quo_run P t k _ _ hy w
  | rem =>
    simp only [eInt] at h
    obtain rfl := hk (by simp) (by simp)
    split at h
    · rename_i y
      split at h
      · exact h.elim
      · rename_i hy
        have hy0 : y ≠ 0 := of_decide_eq_false hy
        exact gets_int (fun w => by rw [ix2_v]; exact rem_run P t k _ _ hy0 w) h
    · rename_i y
      cases h with
      | mk hy h => exact gets_int (fun w => by rw [ix2_v]; exact rem_run P t k _ _ hy w) h
  | and => simp only [eInt] at h; obtain rfl := hk (by simp) (by simp); exact gets_int (fun w => by simp only [binOp, ne_eq, not_true, if_false, ix2_v]; exact bits_run P _ (by simp) _ _ _ _) h
  | or => simp only [eInt] at h; obtain rfl := hk (by simp) (by simp); exact gets_int (fun w => by simp only [binOp, ne_eq, not_true, if_false, ix2_v]; exact bits_run P _ (by simp) _ _ _ _) h
  | xor => simp only [eInt] at h; obtain rfl := hk (by simp) (by simp); exact gets_int (fun w => by simp only [binOp, ne_eq, not_true, if_false, ix2_v]; exact bits_run P _ (by simp) _ _ _ _) h
  | andNot => simp only [eInt] at h; obtain rfl := hk (by simp) (by simp); exact gets_int (fun w => by simp only [binOp, ne_eq, not_true, if_false, ix2_v]; exact bits_run P _ (by simp) _ _ _ _) h
  | lss => simp only [eInt] at h; obtain rfl := hk (by simp) (by simp); exact gets_bool (fun w => by simp [binOp, Op.intCmp, bx2_v, cop]) h
  | leq => simp only [eInt] at h; obtain rfl := hk (by simp) (by simp); exact gets_bool (fun w => by simp [binOp, Op.intCmp, bx2_v, cop]) h
  | gtr => simp only [eInt] at h; obtain rfl := hk (by simp) (by simp); exact gets_bool (fun w => by simp [binOp, Op.intCmp, bx2_v, cop]) h
  | geq => simp only [eInt] at h; obtain rfl := hk (by simp) (by simp); exact gets_bool (fun w => by simp [binOp, Op.intCmp, bx2_v, cop]) h
  | eql => simp only [eInt] at h; obtain rfl := hk (by simp) (by simp); exact gets_bool (fun w => by simp [binOp, Op.intCmp, bx2_v, cop]; rfl) h
  | neq => simp only [eInt] at h; obtain rfl := hk (by simp) (by simp); exact gets_bool (fun w => by simp [binOp, Op.intCmp, bx2_v, cop]; rfl) h
end Go.Sy
end
