/- The evaluator: one operation; regions in the text's order and in whatever order Go leaves open; code, loops, results. Definitions alone. -/
import Derived.Test.YtlgmbpnlakjefaaSyB
namespace Go.Sy

/-- What an append may do: write in place, go over to new memory, or (nobody knows) either. -/
inductive App (fits : Unit → Prop) (ex own : Bool) (K1 K2 K3 : Unit → Prop) : Prop
  | inplace : own = true → fits () → K1 () → App fits ex own K1 K2 K3
  | either : own = true → K2 () → App fits ex own K1 K2 K3
  | fresh : ex = true → ¬ fits () → K3 () → App fits ex own K1 K2 K3

def zeroOf (d : TD) (K : AV → Prop) : Prop :=
  match d.isAgg with
  | true => K (.agg d.zero)
  | false => match d.zero with | [v] => K v | _ => False
/-- the rows that a slice shows -/
def rowsIn (h : Heap) (x : AV) (K : List Kd → (Unit → List (List D)) → NX → Prop) (nil : Unit → Prop) : Prop :=
  match x with
  | .nils => nil ()
  | .sl b i f z n _ _ => match nth h b with
    | some (some o) => match o.c with
      | .rows sig l => match f with
        | .l 0 => match Nat.beq (len sig) z with
          | true => leN (nAdd i n) (.t fun _ => (l ()).length) fun _ => K sig (fun _ => ((l ()).drop i.v).take n.v) n
          | false => False
        | _ => False
      | _ => False
    | _ => False
  | _ => False
def maxBytes : Nat := 140737488355328
def eAppend (d : TD) (s x : AV) (h : Heap) (K : AV → Heap → List Tch → Prop) : Prop :=
  rowsIn h x (fun sig xl n2 =>
    match sigEq sig (match d.sig with | some q => q | none => []) with
    | false => False
    | true => match Nat.beq d.size (len sig) with
     | false => False
     | true => match Nat.blt 0 d.bytes with
     | false => False
     | true => match s with
      | .nils => Chk (fun _ => n2.v * d.bytes ≤ maxBytes) fun _ =>
          push h ⟨true, .rows sig xl⟩ fun n h' => K (.sl n (.l 0) (.l 0) (len sig) n2 n2 false) h' []
      | .sl b i f z n c ex => match nth h b with
        | some (some o) => match o.c with
          | .rows sig' l => match f with
            | .l 0 => match sigEq sig' sig with
              | true => match Nat.beq z (len sig) with
                | true => leN (nAdd i n) (.t fun _ => (l ()).length) fun _ => Chk (fun _ => (n.v + n2.v) * d.bytes ≤ maxBytes) fun _ =>
                    App (fun _ => n.v + n2.v ≤ c.v) ex o.mt
                      (fun _ => K (.sl b i (.l 0) z (nAdd n n2) c ex)
                        (upd h b (some ⟨true, .rows sig fun _ => (l ()).take (i.v + n.v) ++ xl () ++ (l ()).drop (i.v + n.v + n2.v)⟩)) [.obj b])
                      (fun _ => push (upd h b none) ⟨true, .rows sig fun _ => ((l ()).drop i.v).take n.v ++ xl ()⟩ fun m h' =>
                        K (.sl m (.l 0) (.l 0) z (nAdd n n2) (nAdd n n2) false) h' [.obj b])
                      (fun _ => push h ⟨true, .rows sig fun _ => ((l ()).drop i.v).take n.v ++ xl ()⟩ fun m h' =>
                        K (.sl m (.l 0) (.l 0) z (nAdd n n2) (nAdd n n2) false) h' [])
                | false => False
              | false => False
            | _ => False
          | _ => False
        | _ => False
      | _ => False)
    (fun _ => match s with
      | .nils => K .nils h []
      | .sl b i f z n c ex => K (.sl b i f z n c ex) h []
      | _ => False)
def eClear (d : TD) (x : AV) (h : Heap) (K : AV → Heap → List Tch → Prop) : Prop :=
  match x with
  | .nils => K (.tuple []) h []
  | .sl b i f z n _ _ => match nth h b with
    | some (some o) => match o.mt with
      | true => match o.c with
        | .rows sig l => match f with
          | .l 0 => match sigEq sig (match d.sig with | some q => q | none => []) with
            | true => match (match Nat.beq z (len sig) with | true => (match Nat.beq d.size (len sig) with | true => fits sig 1 d.zero | false => false) | false => false) with
              | true => leN (nAdd i n) (.t fun _ => (l ()).length) fun _ =>
                  K (.tuple []) (upd h b (some ⟨true, .rows sig fun _ => (l ()).take i.v ++ List.replicate n.v (dsOf d.zero) ++ (l ()).drop (i.v + n.v)⟩)) [.obj b]
              | false => False
            | false => False
          | _ => False
        | _ => False
      | false => False
    | _ => False
  | _ => False
def eLen (T : Tab) (t : Nat) (x : AV) (K : AV → Prop) : Prop :=
  match ti T t with
  | some d => match d.k with
    | .slice _ => match x with
      | .nils => K (.int .i64 (.l 0))
      | .sl _ _ _ _ n _ _ => K (.int .i64 (ofNat n))
      | _ => False
    | .array n _ => K (.int .i64 (.l n))
    | .ptr e => match ti T e with
      | some de => match de.k with | .array n _ => K (.int .i64 (.l n)) | _ => False
      | none => False
    | _ => False
  | none => False
def evs (t : List AV) : List Operand → List AV
  | [] => []
  | x :: l => ev t x :: evs t l
def eBuiltin (T : Tab) (b : Builtin) (ts : List Nat) (xs : List AV) (h : Heap) (K : AV → Heap → List Tch → Prop) : Prop :=
  match b with
  | .len => match ts with
    | [t] => match xs with | [x] => eLen T t x fun v => K v h [] | _ => False
    | _ => False
  | .max => eMinMax true xs fun v => K v h []
  | .min => eMinMax false xs fun v => K v h []
  | .append => match ts with
    | [t, t'] => match xs with
      | [s, x] => match ti T t with
        | some d => match d.k with
          | .slice e => match ti T t' with
            | some d' => match d'.k with
              | .slice _ => match ti T e with
                | some de => eAppend de s x h K
                | none => False
              | _ => False
            | none => False
          | _ => False
        | none => False
      | _ => False
    | _ => False
  | .clear => match ts with
    | [t] => match xs with
      | [x] => match ti T t with
        | some d => match d.k with
          | .slice e => match ti T e with
            | some de => eClear de x h K
            | none => False
          | _ => False
        | none => False
      | _ => False
    | _ => False
  | _ => False
def parts (t : List AV) : List (Nat × Operand) → List (Nat × AV)
  | [] => []
  | p :: l => (p.1, ev t p.2) :: parts t l
def eBuild (T : Tab) (t : Nat) (ps : List (Nat × AV)) (K : AV → Prop) : Prop :=
  match ti T t with
  | some d => match d.k with
    | .struct fs => fillA T (nth fs) d.zero ps fun cs => K (.agg cs)
    | .array _ e => esz T e fun z => fillA T (fun i => some (i * z, e)) d.zero ps fun cs => K (.agg cs)
    | _ => False
  | none => False
def rep {α : Type} : Nat → List α → List α
  | 0, _ => []
  | n + 1, l => l ++ rep n l
def eBuildSlice (T : Tab) (t n : Nat) (ps : List (Nat × AV)) (h : Heap) (K : AV → Heap → Prop) : Prop :=
  match ti T t with
  | some d => match d.k with
    | .slice e => match ti T e with
      | some de => match de.sig with
        | some sig => match (match Nat.beq (len sig) de.size with | true => Nat.blt 0 (len sig) | false => false) with
          | true => match Nat.ble (n * de.size) 16777216 with
            | true => fillA T (fun i => some (i * de.size, e)) (rep n de.zero) ps fun cs => match fits sig n cs with
              | true => push h ⟨true, .rows sig fun _ => rowsOf (len sig) n cs⟩ fun m h' => K (.sl m (.l 0) (.l 0) de.size (.l n) (.l n) true) h'
              | false => False
            | false => False
          | false => False
        | none => False
      | none => False
    | _ => False
  | none => False
def eMakeSlice (T : Tab) (t : Nat) (l c : AV) (h : Heap) (K : AV → Heap → Prop) : Prop :=
  match ti T t with
  | some d => match d.k with
    | .slice e => match ti T e with
      | some de => match de.sig with
        | some sig => match (match Nat.beq (len sig) de.size with | true => (match Nat.blt 0 (len sig) with | true => (match Nat.blt 0 de.bytes with | true => fits sig 1 de.zero | false => false) | false => false) | false => false) with
          | true => match l with
            | .int _ a => match c with
              | .int _ b => Chk (fun _ => 0 ≤ a.v ∧ a.v ≤ b.v ∧ b.v * de.bytes ≤ maxBytes) fun _ =>
                  push h ⟨true, .rows sig fun _ => List.replicate a.v.toNat (dsOf de.zero)⟩ fun m h' => K (.sl m (.l 0) (.l 0) de.size (natOf a) (natOf b) true) h'
              | _ => False
            | _ => False
          | false => False
        | none => False
      | none => False
    | _ => False
  | none => False
/-- an operation that neither reads nor changes memory -/
def ePure (T : Tab) (st : St) (o : Op) (K : AV → Prop) : Prop :=
  match o with
  | .move x => K (ev st.t x)
  | .assign x => K (ev st.t x)
  | .pick c a b => match ev st.t c with | .bool c => ePick c (ev st.t a) (ev st.t b) K | _ => False
  | .build t ps => eBuild T t (parts st.t ps.toList) K
  | .nilCheck x => match ev st.t x with
    | .ptr b i f => K (.ptr b i f)
    | .func (.func g) fs cs => K (.func (.func g) fs cs)
    | _ => False
  | .binOp op t x y _ => eBin T op t (ev st.t x) (ev st.t y) K
  | .unOp op _ x => eUn op (ev st.t x) K
  | .convert s d x => match ti T d with
    | some dd => match dd.k with
      | .int k => match ti T s with
        | some _ => match ev st.t x with | .int _ n => eConv k n K | _ => False
        | none => False
      | _ => False
    | none => False
  | .fieldAddr s x fi => match ev st.t x with
    | .ptr b i f => fieldAt T s fi fun off t => match ti T t with
      | some d => match Nat.beq d.size 0 with | true => False | false => K (.ptr b i (nAdd f (.l off)))
      | none => False
    | _ => False
  | .field s x fi => match ev st.t x with
    | .agg cs => fieldAt T s fi fun off t => partV T t cs off K
    | _ => False
  | .indexAddr t x ix => match ev st.t ix with | .int _ n => eIndexAddr T t (ev st.t x) n st.h K | _ => False
  | .index t x ix => match ev st.t ix with | .int _ n => eIndex T t (ev st.t x) n K | _ => False
  | .slice t x lo hi mx => eSlice T t st.t (ev st.t x) lo hi mx st.h K
  | .extract x i => match ev st.t x with
    | .tuple vs => match nth vs i with | some v => K v | none => False
    | _ => False
  | .makeFunc fn fs cs => K (.func fn (evs st.t fs.toList) (evs st.t cs.toList))
  | _ => False
def isPure : Op → Bool
  | .move _ => true | .assign _ => true | .pick .. => true | .build .. => true | .nilCheck _ => true | .binOp .. => true | .unOp .. => true
  | .convert .. => true | .fieldAddr .. => true | .field .. => true | .indexAddr .. => true | .index .. => true | .slice .. => true
  | .extract .. => true | .makeFunc .. => true
  | _ => false
/-- an operation that makes or changes memory, or calls -/
def eEff (T : Tab) (G : Env) (st : St) (o : Op) (K : AV → Heap → List Tch → Prop) : Prop :=
  match o with
  | .alloc t => match ti T t with
    | some d => zeroOf d fun v => contOf T t v fun c => push st.h ⟨true, c⟩ fun n h' => K (.ptr n (.l 0) (.l 0)) h' []
    | none => False
  | .box t x => contOf T t (ev st.t x) fun c => push st.h ⟨true, c⟩ fun n h' => K (.ptr n (.l 0) (.l 0)) h' []
  | .buildSlice t n ps => eBuildSlice T t n (parts st.t ps.toList) st.h fun v h' => K v h' []
  | .makeSlice t l c => eMakeSlice T t (ev st.t l) (ev st.t c) st.h fun v h' => K v h' []
  | .store t a x => eStore T t (ev st.t a) (ev st.t x) st.h fun h' tc => K (.tuple []) h' [tc]
  | .call c => match c.callee with
    | .builtin b => eBuiltin T b c.argTypes.toList (evs st.t c.args.toList) st.h K
    | .value f => match ev st.t f with
      | .func (.func g) fs cs => match lookC G g with
        | some C => eCall C (fs ++ evs st.t c.args.toList ++ cs) st.h K
        | none => False
      | _ => False
    | .invoke _ _ => False
  | _ => False
def put (t : List AV) (d : Option Nat) (v : AV) : List AV :=
  match d with
  | some i => upd t i v
  | none => t
/-- is the operation carried out? its guard's slot is known from here on -/
def eGuard (ops : List Oper) (st : St) (o : Oper) (yes no : St → Prop) : Prop :=
  match o.guard with
  | none => yes st
  | some (j, want) => match nth ops j with
    | some oj => match oj.dst with
      | some d => match nth st.t d with
        | some (.bool b) => match b with
          | .l x => (match x, want with | true, true => yes st | false, false => yes st | _, _ => no st)
          | .t f => Br f
            (fun _ => match want with | true => yes ⟨upd st.t d (.bool (.l true)), st.h⟩ | false => no ⟨upd st.t d (.bool (.l true)), st.h⟩)
            (fun _ => match want with | true => no ⟨upd st.t d (.bool (.l false)), st.h⟩ | false => yes ⟨upd st.t d (.bool (.l false)), st.h⟩)
        | some (.tuple []) => no st
        | _ => False
      | none => False
    | none => False
/-- an operation, whichever; K: the state behind it, what it read, what it touched -/
def eStep (T : Tab) (G : Env) (st : St) (o : Oper) (K : St → List Tch → List Tch → Prop) : Prop :=
  match isPure o.op with
  | true => ePure T st o.op fun v => K ⟨put st.t o.dst v, st.h⟩ [] []
  | false => match o.op with
    | .load t a => eLoad T t (ev st.t a) st.h fun v r => K ⟨put st.t o.dst v, st.h⟩ [r] []
    | op => eEff T G st op fun v h' tc => K ⟨put st.t o.dst v, h'⟩ [] tc
def eOps (T : Tab) (G : Env) (all : List Oper) : List Oper → St → (St → Prop) → Prop
  | [], st, K => K st
  | o :: rest, st, K => eGuard all st o
      (fun st => eStep T G st o fun st' _ _ => eOps T G all rest st' K)
      (fun st => eOps T G all rest ⟨put st.t o.dst (.tuple []), st.h⟩ K)

/-! ### a region whose order Go leaves open -/
def bnd (e : Edge) : Bool := match e.ground with | .textOnly _ => false | .gcOnly _ => false | _ => true
def sat (done : List Nat) : List Edge → Bool
  | [] => true
  | e :: l => match bnd e with
    | false => sat done l
    | true => match memN done e.on with | true => sat done l | false => false
def num {α : Type} (n : Nat) : List α → List (Nat × α)
  | [] => []
  | a :: l => (n, a) :: num (n + 1) l
def del (n : Nat) : List (Nat × Oper) → List (Nat × Oper)
  | [] => []
  | p :: l => match Nat.beq p.1 n with | true => l | false => p :: del n l
def readys (done : List Nat) : List (Nat × Oper) → List (Nat × Oper)
  | [] => []
  | p :: l => match sat done p.2.after.toList with | true => p :: readys done l | false => readys done l
/-- does it wait for one of these? -/
def waitsFor (ds : List Nat) : List Edge → Bool
  | [] => false
  | e :: l => match bnd e with
    | false => waitsFor ds l
    | true => match memN ds e.on with | true => true | false => waitsFor ds l
/-- those of the operations left that wait for i, or for one that does -/
def followers (i : Nat) : List (Nat × Oper) → List Nat → List Nat
  | [], ds => ds
  | p :: l, ds => match waitsFor (i :: ds) p.2.after.toList with | true => followers i l (p.1 :: ds) | false => followers i l ds
structure Ob where
  deps : List Nat
  tch : Tch
def clashes (t : Tch) : List Tch → Bool
  | [] => false
  | u :: l => match t.clash u with | true => true | false => clashes t l
/-- what was read early stays as it was, as long as it may have been read late -/
def keeps (done : List Nat) (tc : List Tch) : List Ob → Bool
  | [] => true
  | o :: l => match anyIn o.deps done with
    | true => keeps done tc l
    | false => match clashes o.tch tc with | true => false | false => keeps done tc l
def isLoad : Op → Bool | .load .. => true | _ => false
def firstPure : List (Nat × Oper) → Option (Nat × Oper)
  | [] => none
  | p :: l => match isPure p.2.op with | true => some p | false => firstPure l
def firstLoad : List (Nat × Oper) → Option (Nat × Oper)
  | [] => none
  | p :: l => match isLoad p.2.op with | true => some p | false => firstLoad l
def obsOf (deps : List Nat) (obs : List Ob) : List Tch → List Ob
  | [] => obs
  | t :: l => ⟨deps, t⟩ :: obsOf deps obs l
def allOf (F : Nat × Oper → Prop) : List (Nat × Oper) → Prop
  | [] => True
  | [p] => F p
  | p :: l => F p ∧ allOf F l
/-- 'eff': the operations that change memory and are done, in the true order; pure ones and loads are taken early -/
def eAny (T : Tab) (G : Env) (all : List Oper) : Nat → List Nat → List Nat → List (Nat × Oper) → List Ob → St → (St → Prop) → Prop
  | 0, _, _, _, _, _, _ => False
  | n + 1, done, eff, left, obs, st, K =>
    match left with
    | [] => K st
    | _ => (fun rs : List (Nat × Oper) =>
      match firstPure rs with
      | some p => eGuard all st p.2
          (fun st => ePure T st p.2.op fun v => eAny T G all n (p.1 :: done) eff (del p.1 left) obs ⟨put st.t p.2.dst v, st.h⟩ K)
          (fun st => eAny T G all n (p.1 :: done) eff (del p.1 left) obs ⟨put st.t p.2.dst (.tuple []), st.h⟩ K)
      | none => match firstLoad rs with
        | some p => eGuard all st p.2
            (fun st => eStep T G st p.2 fun st' r _ => eAny T G all n (p.1 :: done) eff (del p.1 left) (obsOf (followers p.1 (del p.1 left) []) obs r) st' K)
            (fun st => eAny T G all n (p.1 :: done) eff (del p.1 left) obs ⟨put st.t p.2.dst (.tuple []), st.h⟩ K)
        | none => match rs with
          | [] => False
          | rs => allOf (fun p => eGuard all st p.2
              (fun st => eStep T G st p.2 fun st' _ tc => match keeps (p.1 :: eff) tc obs with
                | true => eAny T G all n (p.1 :: done) (p.1 :: eff) (del p.1 left) obs st' K
                | false => False)
              (fun st => eAny T G all n (p.1 :: done) (p.1 :: eff) (del p.1 left) obs ⟨put st.t p.2.dst (.tuple []), st.h⟩ K)) rs)
      (readys done left)

/-! ### code -/
inductive Ex | normal | exit (id : Nat) | ret
def maskT (keep : List Nat) : Nat → List AV → List AV
  | _, [] => []
  | i, a :: l => (match memN keep i with | true => a | false => .undef) :: maskT keep (i + 1) l
/-- the state with the slots that are kept, and the objects that they lead to; the first k stay where they are -/
def norm (keep : List Nat) (k : Nat) (st : St) : St :=
  (fun t => (fun m => ⟨renL (fun b => posN m b 0) t, mapH (fun b => posN m b 0) st.h m⟩) (reach st.h (len st.h) 0 (refsL (iota k 0) t))) (maskT keep 0 st.t)
/-! ### the same said in another way, or less -/
inductive SameI (x y : IX) : Prop | mk : x.v = y.v → SameI x y
inductive SameN (x y : NX) : Prop | mk : x.v = y.v → SameN x y
inductive SameB (x y : BX) : Prop | mk : x.v = y.v → SameB x y
inductive SameL (x y : Unit → List (List D)) : Prop | mk : x () = y () → SameL x y
inductive LeN (x y : NX) : Prop | mk : x.v ≤ y.v → LeN x y
inductive SameS (x y : List Kd) : Prop | mk : x = y → SameS x y
inductive SameK (x y : IntKind) : Prop | mk : x = y → SameK x y
inductive SameF (x y : Fn) : Prop | mk : x = y → SameF x y
inductive SameZ (x y : Nat) : Prop | mk : x = y → SameZ x y
def sK (a b : IntKind) : Prop := match kEq a b with | true => True | false => SameK a b
def sS (a b : List Kd) : Prop := match sigEq a b with | true => True | false => SameS a b
def sZ (a b : Nat) : Prop := match Nat.beq a b with | true => True | false => SameZ a b
def sF (a b : Fn) : Prop := match a with
  | .func f => match b with | .func g => (match Nat.beq f g with | true => True | false => SameF (.func f) (.func g)) | b => SameF (.func f) b
  | a => SameF a b
def sN (a b : NX) : Prop := match a with
  | .l x => (match b with | .l y => (match Nat.beq x y with | true => True | false => SameN (.l x) (.l y)) | b => SameN (.l x) b)
  | a => SameN a b
def sE (x' x : Bool) (c c' : NX) : Prop := match x' with | false => True | true => match x with | true => SameN c c' | false => False
mutual
def wv : AV → AV → Prop
  | .undef, b => match b with | .undef => True | _ => False
  | .bool x, b => match b with | .undef => True | .bool y => SameB x y | _ => False
  | .int k x, b => match b with | .undef => True | .int k' y => sK k k' ∧ SameI x y | _ => False
  | .nilp, b => match b with | .undef => True | .nilp => True | _ => False
  | .ptr o i f, b => match b with | .undef => True | .ptr o' i' f' => sZ o o' ∧ sN i i' ∧ sN f f' | _ => False
  | .nils, b => match b with | .undef => True | .nils => True | _ => False
  | .sl o i f z n c x, b => match b with
    | .undef => True
    | .sl o' i' f' z' n' c' x' => sZ o o' ∧ sN i i' ∧ sN f f' ∧ sZ z z' ∧ sN n n' ∧ LeN n' c' ∧ LeN c' c ∧ sE x' x c c'
    | _ => False
  | .ro sig l, b => match b with | .undef => True | .ro sig' l' => sS sig sig' ∧ SameL l l' | _ => False
  | .nilf, b => match b with | .undef => True | .nilf => True | _ => False
  | .func fn fs cs, b => match b with | .undef => True | .func fn' fs' cs' => sF fn fn' ∧ wvs fs fs' ∧ wvs cs cs' | _ => False
  | .agg cs, b => match b with | .undef => True | .agg cs' => wvs cs cs' | _ => False
  | .arr sig l, b => match b with | .undef => True | .arr sig' l' => sS sig sig' ∧ SameL l l' | _ => False
  | .tuple cs, b => match b with | .undef => True | .tuple cs' => wvs cs cs' | _ => False
def wvs : List AV → List AV → Prop
  | [], m => match m with | [] => True | _ => False
  | a :: l, m => match m with | b :: m' => wv a b ∧ wvs l m' | [] => False
end
def wc : Cont → Cont → Prop
  | .cells l, c => match c with | .cells l' => wvs l l' | _ => False
  | .rows sig l, c => match c with | .rows sig' l' => sS sig sig' ∧ SameL l l' | _ => False
def sB (a b : Bool) : Prop := match a with | true => (match b with | true => True | false => False) | false => match b with | false => True | true => False
def wo : Option Obj → Option Obj → Prop
  | _, none => True
  | some o, some o' => sB o.mt o'.mt ∧ wc o.c o'.c
  | none, some _ => False
def whs : Heap → Heap → Prop
  | [], m => match m with | [] => True | _ => False
  | a :: l, m => match m with | b :: m' => wo a b ∧ whs l m' | [] => False
def gen (keep : List Nat) (k : Nat) (st st1 : St) : Prop := (fun s : St => wvs s.t st1.t ∧ whs s.h st1.h) (norm keep k st)
/-- what comes behind: named, so that it stands but once in the term -/
def seqQ (E : St → (Ex → St → Prop) → Prop) (Q : Ex → St → Prop) : Ex → St → Prop
  | .normal, st => E st Q
  | .exit i, st => Q (.exit i) st
  | .ret, st => Q .ret st
def blockQ (id : Nat) (Q : Ex → St → Prop) : Ex → St → Prop
  | .normal, st => Q .normal st
  | .exit i, st => match Nat.beq i id with | true => Q .normal st | false => Q (.exit i) st
  | .ret, st => Q .ret st
def iterQ (R : St → Prop) (Q : Ex → St → Prop) : Ex → St → Prop
  | .normal, st => R st
  | .exit i, st => Q (.exit i) st
  | .ret, st => Q .ret st
def eIter (B : St → (Ex → St → Prop) → Prop) (g : St → St → Prop) (Q : Ex → St → Prop) : Nat → St → Prop
  | 0, _ => False
  | n + 1, st => ∃ st1, g st st1 ∧ B st1 (iterQ (eIter B g Q n) Q)
def eCode (T : Tab) (G : Env) (k : Nat) : Code → St → (Ex → St → Prop) → Prop
  | .skip, st, Q => Q .normal st
  | .region _ ops draw, st, Q => match draw with
    | false => eOps T G ops.toList ops.toList st (Q .normal)
    | true => eAny T G ops.toList (len ops.toList + 1) [] [] (num 0 ops.toList) [] st (Q .normal)
  | .seq a b, st, Q => eCode T G k a st (seqQ (eCode T G k b) Q)
  | .cond c x y, st, Q => match ev st.t c with
    | .bool b => match b with
      | .l true => eCode T G k x st Q
      | .l false => eCode T G k y st Q
      | .t f => Br f (fun _ => eCode T G k x st Q) fun _ => eCode T G k y st Q
    | _ => False
  | .block id c, st, Q => eCode T G k c st (blockQ id Q)
  | .loop c, st, Q => ∃ (n : Nat) (keep : List Nat), eIter (eCode T G k c) (gen keep k) Q n st
  | .exit id, st, Q => Q (.exit id) st
  | .ret, st, Q => Q .ret st
  | _, _, _ => False
/-! ### results -/
def eRes (T : Tab) (st : St) : List ResultVar → (List AV → Prop) → Prop
  | [], K => K []
  | .tmp t :: l, K => match nth st.t t with
    | some v => eRes T st l fun vs => K (v :: vs)
    | none => False
  | .cell a t :: l, K => match nth st.t a with
    | some v => eLoad T t v st.h fun v _ => eRes T st l fun vs => K (v :: vs)
    | none => False
def one (vs : List AV) : AV := match vs with | [v] => v | vs => .tuple vs
def eRet (T : Tab) (k : Nat) (rs : List ResultVar) (K : AV → Heap → Prop) : Ex → St → Prop
  | .exit _, _ => False
  | _, st => eRes T st rs fun vs =>
      (fun m => K (renV (fun b => posN m b 0) (one vs)) (mapH (fun b => posN m b 0) st.h m))
        (reach st.h (len st.h) 0 (refsV (iota k 0) (one vs)))
def undefs : Nat → List AV
  | 0 => []
  | n + 1 => .undef :: undefs n
/-- the whole function -/
def eFunc (T : Tab) (G : Env) (body : Code) (ntmps : Nat) (rs : List ResultVar) (args : List AV) (h : Heap) (K : AV → Heap → Prop) : Prop :=
  eCode T G (len h) body ⟨args ++ undefs (ntmps - len args), h⟩ (eRet T (len h) rs K)
end Go.Sy
