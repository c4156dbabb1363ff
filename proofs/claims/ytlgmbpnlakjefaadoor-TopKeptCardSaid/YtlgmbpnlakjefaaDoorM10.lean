/- Put together by a program of this work out of its texts SyZ, BlK, Bl1, Bl2, Bl3. -/
import Derived.Test.YtlgmbpnlakjefaaDoorM9
section
/- What a proof of a contract uses: loops by an invariant; where the evaluator comes to rest. -/
namespace Go.Sy
set_option linter.unusedSimpArgs false
set_option linter.unusedVariables false
set_option linter.unusedSectionVars false

theorem lt_t {x y : Int} : (cop .lt x y = true) ↔ x < y := by simp [cop]
theorem lt_f {x y : Int} : (cop .lt x y = false) ↔ ¬ x < y := by simp [cop]
theorem le_t {x y : Int} : (cop .le x y = true) ↔ x ≤ y := by simp [cop]
theorem le_f {x y : Int} : (cop .le x y = false) ↔ ¬ x ≤ y := by simp [cop]
theorem gt_t {x y : Int} : (cop .gt x y = true) ↔ y < x := by simp [cop]
theorem gt_f {x y : Int} : (cop .gt x y = false) ↔ ¬ y < x := by simp [cop]
theorem ge_t {x y : Int} : (cop .ge x y = true) ↔ y ≤ x := by simp [cop]
theorem ge_f {x y : Int} : (cop .ge x y = false) ↔ ¬ y ≤ x := by simp [cop]
theorem eq_t {x y : Int} : (cop .eq x y = true) ↔ x = y := by simp [cop]
theorem eq_f {x y : Int} : (cop .eq x y = false) ↔ ¬ x = y := by simp [cop]
theorem ne_t {x y : Int} : (cop .ne x y = true) ↔ ¬ x = y := by simp [cop]
theorem ne_f {x y : Int} : (cop .ne x y = false) ↔ x = y := by simp [cop]
theorem aop_add {x y : Int} : aop .add x y = x + y := rfl
theorem aop_sub {x y : Int} : aop .sub x y = x - y := rfl
theorem aop_mul {x y : Int} : aop .mul x y = x * y := rfl
theorem aop_quo {x y : Int} : aop .quo x y = x.tdiv y := rfl
theorem aop_rem {x y : Int} : aop .rem x y = x.tmod y := rfl
theorem ofN_nonneg (n : Nat) : 0 ≤ ofN n := Int.natCast_nonneg n
theorem ofN_succ (n : Nat) : ofN (n + 1) = ofN n + 1 := by simp [ofN]
theorem ofN_toNat {a : Int} (h : 0 ≤ a) : ofN a.toNat = a := by simp [ofN]; omega
theorem ofN_inj {m n : Nat} (h : ofN m = ofN n) : m = n := by simp only [ofN] at h; omega
theorem ofN_lt {m n : Nat} : ofN m < ofN n ↔ m < n := by simp only [ofN]; omega
theorem ofN_le {m n : Nat} : ofN m ≤ ofN n ↔ m ≤ n := by simp only [ofN]; omega
theorem ofN_eq (n : Nat) : ofN n = (n : Int) := rfl
theorem ofN_in {i n : Nat} (h : i < n) : 0 ≤ ofN i ∧ ofN i < ((NX.l n).v : Int) := by simp only [ofN, NX.v]; omega
theorem toNat_ofN (n : Nat) : (ofN n).toNat = n := by simp [ofN]
theorem ofN_len {i n : Nat} {f : Unit → Nat} (h : i < n) (hf : f () = n) : 0 ≤ ofN (ofN i).toNat ∧ ofN (ofN i).toNat < ((NX.t f).v : Int) := by rw [toNat_ofN]; simp only [ofN, NX.v, hf]; omega
theorem inR64 {n : Int} (h : -9223372036854775808 ≤ n ∧ n ≤ 9223372036854775807) : inR .i64 n = true := by
  simp [inR, IntKind.min, IntKind.max, IntKind.signed, IntKind.bits]; omega
/-- the function's end: the answer may be said in another way -/
inductive Ret (K : AV → Heap → Prop) (v : AV) (h : Heap) : Prop | mk (v' : AV) (h' : Heap) : K v' h' → wv v v' → whs h h' → Ret K v h
/-- behind a loop -/
inductive Out (Q : Ex → St → Prop) (ex : Ex) (st : St) : Prop | mk : Q ex st → Out Q ex st
def roundQ (R : St → Prop) (Q : Ex → St → Prop) : Ex → St → Prop
  | .normal, st => At R st
  | .exit i, st => Out Q (.exit i) st
  | .ret, st => Out Q .ret st
theorem iterQ_eq (R : St → Prop) (Q : Ex → St → Prop) : iterQ R Q = roundQ R Q := by
  funext ex st'
  cases ex with
  | normal => show R st' = At R st'; exact propext ⟨.mk, fun h => by cases h; assumption⟩
  | exit i => show Q (.exit i) st' = Out Q (.exit i) st'; exact propext ⟨.mk, fun h => by cases h; assumption⟩
  | ret => show Q .ret st' = Out Q .ret st'; exact propext ⟨.mk, fun h => by cases h; assumption⟩
/-- A loop by an invariant: states (as they are at a round's begin) that bear a number, which each round lowers. -/
theorem loop_invN {T : Tab} {G : Env} {k : Nat} {c : Code} {Q : Ex → St → Prop} {st : St} {α : Type} (ns : List Nl) (keep : List Nat) (I : α → Prop) (S : α → St) (μ : α → Nat) (x : α) (hI : I x) (hs : gen keep k (nilify ns st) (S x))
    (round : ∀ x (R : St → Prop), I x → (∀ y st, I y → μ y < μ x → gen keep k st (S y) → R st) → eCode T G k c (S x) (roundQ R Q)) : ∃ (n : Nat) (keep : List Nat) (g : List Nl), eIter (eCode T G k c) (gen keep k) Q n (nilify g st) := by
  refine ⟨μ x + 1, keep, ns, ?_⟩
  generalize nilify ns st = st at hs
  suffices h : ∀ n x st, μ x ≤ n → I x → gen keep k st (S x) → eIter (eCode T G k c) (gen keep k) Q (n + 1) st from h _ x st (Nat.le_refl _) hI hs
  intro n
  induction n with
  | zero =>
    intro x st hn hI hs
    refine ⟨S x, hs, ?_⟩
    rw [iterQ_eq]
    exact round x _ hI fun y st' _ hy => by omega
  | succ n ih =>
    intro x st hn hI hs
    refine ⟨S x, hs, ?_⟩
    rw [iterQ_eq]
    exact round x _ hI fun y st' hIy hy hs' => ih y st' (by omega) hIy hs'
theorem loop_inv {T : Tab} {G : Env} {k : Nat} {c : Code} {Q : Ex → St → Prop} {st : St} {α : Type} (keep : List Nat) (I : α → Prop) (S : α → St) (μ : α → Nat) (x : α) (hI : I x) (hs : gen keep k st (S x))
    (round : ∀ x (R : St → Prop), I x → (∀ y st, I y → μ y < μ x → gen keep k st (S y) → R st) → eCode T G k c (S x) (roundQ R Q)) : ∃ (n : Nat) (keep : List Nat) (g : List Nl), eIter (eCode T G k c) (gen keep k) Q n (nilify g st) :=
  loop_invN [] keep I S μ x hI hs round
/-- what stands for whatever the arguments stand for -/
def Ent (l m : List AV) : Prop := ∀ (s : Sit) (vs : List Value), VRels s l vs → VRels s m vs
theorem Ent.nil : Ent [] [] := fun _ _ h => h
theorem Ent.cons {a b : AV} {l m : List AV} (h1 : ∀ (s : Sit) (v : Value), VRel s a v → VRel s b v) (h2 : Ent l m) : Ent (a :: l) (b :: m) := fun s vs h => by
  simp only [VRels] at h ⊢
  obtain ⟨v, r, rfl, e1, e2⟩ := h
  exact ⟨v, r, rfl, h1 s v e1, h2 s r e2⟩
theorem ent_wv {a b : AV} (h : wv a b) : ∀ (s : Sit) (v : Value), VRel s a v → VRel s b v := fun _ _ hr => wv_rel _ _ _ h hr
theorem ent_int (k : IntKind) (n : IX) : ∀ (s : Sit) (v : Value), VRel s (.int k n) v → VRel s (.int k (.t fun _ => n.v)) v := fun _ _ hr => by simp only [VRel] at hr ⊢; exact hr
theorem ent_bool (n : BX) : ∀ (s : Sit) (v : Value), VRel s (.bool n) v → VRel s (.bool (.t fun _ => n.v)) v := fun _ _ hr => by simp only [VRel] at hr ⊢; exact hr
theorem ent_sl (b : Nat) (i f : NX) (z : Nat) (n c : NX) (x : Bool) : ∀ (s : Sit) (v : Value), VRel s (.sl b i f z n c x) v → VRel s (.sl b (.t fun _ => i.v) f z (.t fun _ => n.v) (.t fun _ => n.v) false) v := fun _ _ hr => by
  simp only [VRel, NX.v] at hr ⊢
  obtain ⟨a, cap, e1, e2, e3, e4, e5, e6, e7⟩ := hr
  exact ⟨a, cap, e1, Nat.le_refl _, Nat.le_trans e2 e3, (fun h => by cases h), e5, e6, e7⟩
theorem sS_refl (a : List Kd) : sS a a := by
  unfold sS
  split
  · trivial
  · exact .mk rfl
theorem sB_refl (a : Bool) : sB a a := by cases a <;> exact trivial
theorem whs_rows (mt : Bool) (sig : List Kd) (l l' : Unit → List (List D)) (h : l () = l' ()) : whs [some ⟨mt, .rows sig l⟩] [some ⟨mt, .rows sig l'⟩] := ⟨⟨sB_refl mt, sS_refl sig, .mk h⟩, trivial⟩
theorem ent_refl (a : AV) : ∀ (s : Sit) (v : Value), VRel s a v → VRel s a v := fun _ _ h => h
theorem rowsOf_length (m : Nat) : ∀ (n : Nat) (cs : List AV), (rowsOf m n cs).length = n
  | 0, _ => rfl
  | n + 1, cs => by simp [rowsOf, rowsOf_length m n]
/-- an array's value, said as rows -/
theorem asRows_arr {sig : List Kd} {n : Nat} {v : AV} {K : (Unit → List (List D)) → Prop} (h0 : 0 < sig.length) (h : asRows sig n v K) : ∃ l, K l ∧ (l ()).length = n ∧ ∀ (s : Sit) (u : Value), VRel s v u → VRel s (.arr sig l) u := by
  unfold asRows at h
  split at h
  · rename_i cs
    split at h
    · rename_i hf
      refine ⟨_, h, rowsOf_length _ _ _, fun s u hr => ?_⟩
      simp only [VRel] at hr ⊢
      obtain ⟨a, rfl, hr⟩ := hr
      obtain ⟨h1, h2, h3⟩ := fits_rel n cs _ hf hr
      rw [len_eq]
      exact ⟨a, rfl, by rw [h2, ← h1]; simp, h0, by simpa using h3⟩
    · exact h.elim
  · split at h
    · rename_i hs
      obtain rfl := sigEq_eq hs
      cases h with
      | mk h1 h2 => exact ⟨_, h2, h1, fun s u hr => hr⟩
    · exact h.elim
  · exact h.elim

/-- a struct's value of numbers and truths, said by its row -/
theorem ent_row {sig : List Kd} {cs : List AV} (hf : fits sig 1 cs = true) : ∀ (s : Sit) (v : Value), VRel s (.agg cs) v → VRel s (.agg (cellsOf (fun _ => dsOf cs) sig 0)) v := fun s v hr => by
  simp only [VRel] at hr ⊢
  obtain ⟨a, rfl, hr⟩ := hr
  obtain ⟨h1, h2, h3⟩ := fits_rel 1 cs _ hf hr
  have hzl : cs.length = sig.length := by rw [← hr.length, h1]; simp
  have hrow : rowsOf sig.length 1 cs = [dsOf cs] := by
    simp only [rowsOf]
    rw [List.take_of_length_le (by omega)]
  rw [hrow] at h3
  exact ⟨a, rfl, row_rel h3 (i := 0) (by simp) (fun _ => [dsOf cs]) rfl (by simpa using h1) (fun j _ => by simp) 0 rfl⟩

/-! ### arrays of numbers, by a function of the place -/
def arrOf (n : Nat) (f : Nat → Int) : List (List D) := (List.range n).map fun i => [.i (f i)]
def at1 (l : List (List D)) (i : Nat) : Int := ((l.getD i []).getD 0 (.i 0)).int
def put1 (f : Nat → Int) (i : Nat) (x : Int) (j : Nat) : Int := if j = i then x else f j
theorem arrOf_length (n : Nat) (f : Nat → Int) : (arrOf n f).length = n := by simp [arrOf]
theorem arrOf_get {n : Nat} {f : Nat → Int} {i : Nat} (hi : i < n) : (arrOf n f).getD i [] = [.i (f i)] := by
  simp [arrOf, hi]
theorem at1_arrOf {n : Nat} {f : Nat → Int} {i : Nat} (hi : i < n) : at1 (arrOf n f) i = f i := by
  unfold at1; rw [arrOf_get hi]; rfl
theorem arrOf_congr {n : Nat} {f g : Nat → Int} (h : ∀ i, i < n → f i = g i) : arrOf n f = arrOf n g := by
  unfold arrOf
  exact List.map_congr_left fun i hi => by rw [h i (List.mem_range.1 hi)]
/-- an array's value of numbers, said by a function of the place -/
theorem asRows_ints {k : IntKind} {n : Nat} {v : AV} {K : (Unit → List (List D)) → Prop} (h : asRows [.int k] n v K) :
    ∃ l, K l ∧ (l ()).length = n ∧ ∀ (s : Sit) (u : Value), VRel s v u → VRel s (.arr [.int k] fun _ => arrOf n (at1 (l ()))) u := by
  obtain ⟨l, h1, h2, h3⟩ := asRows_arr (by simp) h
  refine ⟨l, h1, h2, fun s u hr => ?_⟩
  have := h3 s u hr
  simp only [VRel] at this ⊢
  obtain ⟨a, rfl, e1, e2, e3⟩ := this
  refine ⟨a, rfl, by rw [arrOf_length, e1, h2], e2, fun i r hi => ?_, fun i j r kk d hi hj hd => ?_⟩
  · have hlt := nth_some_lt hi
    rw [arrOf_length] at hlt
    simp [nth_eq, arrOf, hlt] at hi
    subst hi; rfl
  · have hlt := nth_some_lt hi
    rw [arrOf_length] at hlt
    simp [nth_eq, arrOf, hlt] at hi
    subst hi
    have hj0 := nth_some_lt hj
    have : j = 0 := by simpa using hj0
    subst this
    simp [nth] at hj hd
    subst hj; subst hd
    obtain ⟨q, hq⟩ := nth_of_lt (l := l ()) (i := i) (by omega)
    obtain ⟨d', hd'⟩ := nth_of_lt (l := q) (i := 0) (by rw [e3.1 i q hq]; simp)
    obtain ⟨w, hw, hr⟩ := e3.2 i 0 q (.int k) d' hq rfl hd'
    refine ⟨w, hw, ?_⟩
    cases hr with
    | int k m =>
      have : at1 (l ()) i = m := by
        rw [nth_eq] at hq hd'
        simp [at1, List.getD_eq_getElem?_getD, hq, hd', D.int]
      rw [this]
      exact .int k m
theorem arrOf_set {n : Nat} {f : Nat → Int} {i : Nat} (hi : i < n) (x : Int) : (arrOf n f).set i (((arrOf n f).getD i []).set 0 (.i x)) = arrOf n (put1 f i x) := by
  rw [arrOf_get hi]
  apply List.ext_getElem?
  intro j
  rw [List.getElem?_set]
  simp only [arrOf_length]
  by_cases hj : j < n
  · by_cases e : i = j
    · subst e
      simp [arrOf, put1, hi]
    · have e' : ¬ j = i := fun h => e h.symm
      simp [arrOf, put1, e, e', hj]
  · by_cases e : i = j
    · omega
    · simp [arrOf, e, hj]
theorem arrOf_zero (n : Nat) (f : Nat → Int) (h : ∀ i, i < n → f i = 0) : List.replicate n [D.i 0] = arrOf n f := by
  apply List.ext_getElem?
  intro j
  by_cases hj : j < n
  · simp [arrOf, hj, h j hj]
  · simp [arrOf, hj]
/-- A contract is kept: it is enough to show it of arguments that are said in another way. -/
theorem fnChk.kept {P : Program} {T : Tab} (hT : TabOk P T) {G : Env} (hG : EnvOk P G) (hm : P.follows .mixedOrders = true) {f : FuncId} {body : Code} {nt : Nat} {rs : List ResultVar} (h : fnChk P f body nt rs) (hok : codeOk body = true) {C : Con}
    (hC : ∀ args h K, C args h K → ∃ args' h', Ent args args' ∧ whs h h' ∧ eFunc T G body nt rs args' h' (Ret K)) : Sound P f C := by
  have hS := h.sound hT hG hm hok (C := fun args h K => eFunc T G body nt rs args h K) fun args h K hc => hc
  intro s h args vals K hh hv hc
  obtain ⟨args', h', w1, w2, he⟩ := hC args h K hc
  refine Calls.mono (hS s h' args' vals (Ret K) (wh_ok hh w2) (w1 s vals hv) he) ?_
  rintro e w' ⟨s', v, av, h', r1, r2, r3, r4, r5, r6, r7⟩
  cases r7 with
  | mk v' h2 w3 w1 w2 => exact ⟨s', v, v', h2, r1, r2, r3, r4, wh_ok r5 w2, wv_rel _ _ _ w1 r6, w3⟩
theorem Ent.of_wvs : ∀ {l m : List AV}, wvs l m → Ent l m
  | [], [], _ => Ent.nil
  | _ :: _, _ :: _, h => Ent.cons (ent_wv h.1) (Ent.of_wvs h.2)
  | [], _ :: _, h => h.elim
  | _ :: _, [], h => h.elim
/-- A contract said by what the arguments stand for. -/
def con {X : Type} (A : X → List AV) (H : X → Heap) (pre : X → Prop) (post : X → (AV → Heap → Prop) → Prop) : Con :=
  fun ys h K => ∃ x, pre x ∧ Ent ys (A x) ∧ whs h (H x) ∧ post x K
theorem fnChk.con {P : Program} {T : Tab} (hT : TabOk P T) {G : Env} (hG : EnvOk P G) (hm : P.follows .mixedOrders = true) {f : FuncId} {body : Code} {nt : Nat} {rs : List ResultVar} (h : fnChk P f body nt rs) (hok : codeOk body = true)
    {X : Type} {A : X → List AV} {H : X → Heap} {pre : X → Prop} {post : X → (AV → Heap → Prop) → Prop}
    (hC : ∀ x K, pre x → post x K → eFunc T G body nt rs (A x) (H x) (Ret K)) : Sound P f (Go.Sy.con A H pre post) :=
  h.kept hT hG hm hok fun _ _ K ⟨x, h1, h2, h3, h4⟩ => ⟨_, _, h2, h3, hC x K h1 h4⟩
/-- the same, where the code is cut -/
theorem fnChk.conS {P : Program} {T : Tab} (hT : TabOk P T) {G : Env} (hG : EnvOk P G) (hm : P.follows .mixedOrders = true) {f : FuncId} {body : Code} {nt : Nat} {rs : List ResultVar} (h : fnChk P f body nt rs)
    {X : Type} {A : X → List AV} {H : X → Heap} {pre : X → Prop} {post : X → (AV → Heap → Prop) → Prop}
    (hC : ∀ x K, pre x → post x K → SCode P (len (H x)) body ⟨A x ++ undefs (nt - len (A x)), H x⟩ (eRet T (len (H x)) rs (Ret K))) : Sound P f (Go.Sy.con A H pre post) := by
  have hS := h.soundS hT hG hm (C := fun ys h K => ∃ x, pre x ∧ ys = A x ∧ h = H x ∧ ∃ K', K = Ret K' ∧ post x K') (fun ys h K ⟨x, h1, h2, h3, K', h4, h5⟩ => by
    subst h2; subst h3; subst h4
    exact hC x K' h1 h5)
  intro s h args vals K hh hv ⟨x, h1, h2, h3, h4⟩
  refine Calls.mono (hS s (H x) (A x) vals (Ret K) (wh_ok hh h3) (h2 s vals hv) ⟨x, h1, rfl, rfl, K, rfl, h4⟩) ?_
  rintro e w' ⟨s', v, av, h', r1, r2, r3, r4, r5, r6, r7⟩
  cases r7 with
  | mk v' h2 w3 w1 w2 => exact ⟨s', v, v', h2, r1, r2, r3, r4, wh_ok r5 w2, wv_rel _ _ _ w1 r6, w3⟩
/-- cells of one kind, by a function of the place -/
def cI (k : IntKind) (f : Nat → Int) : Nat → Nat → List AV
  | 0, _ => []
  | n + 1, j => .int k (.t fun _ => f j) :: cI k f n (j + 1)
def ints (l : List Int) : List (List D) := l.map fun a => [.i a]
theorem ints_length (l : List Int) : (ints l).length = l.length := by simp [ints]
theorem at1_ints (l : List Int) (i : Nat) : at1 (ints l) i = l.getD i 0 := by
  unfold at1 ints
  simp only [List.getD_eq_getElem?_getD, List.getElem?_map]
  cases l[i]? <;> rfl
theorem ints_drop (l : List Int) (n : Nat) : (ints l).drop n = ints (l.drop n) := by simp [ints, List.map_drop]
theorem ints_take (l : List Int) (n : Nat) : (ints l).take n = ints (l.take n) := by simp [ints, List.map_take]
theorem ints_append (l m : List Int) : ints l ++ ints m = ints (l ++ m) := by simp [ints]
theorem ints_one (a : Int) : [[D.i a]] = ints [a] := rfl
theorem ints_set (l : List Int) (i : Nat) (x : Int) (hi : i < l.length) : (ints l).set i (((ints l).getD i []).set 0 (.i x)) = ints (l.set i x) := by
  have : (ints l).getD i [] = [.i l[i]] := by simp [ints, hi]
  rw [this]
  simp [ints, List.map_set]
theorem ints_zero (n : Nat) : List.replicate n [D.i 0] = ints (List.replicate n 0) := by simp [ints]
theorem ints_arr (n : Nat) (f : Nat → Int) : arrOf n f = ints ((List.range n).map f) := by simp [arrOf, ints]
theorem at1_rows {n : Nat} : ∀ {cs : List AV} {i : Nat}, i < n → n ≤ cs.length → at1 (rowsOf 1 n cs) i = (dOf (cs.getD i .undef)).int := by
  induction n with
  | zero => intro cs i hi; omega
  | succ n ih =>
    intro cs i hi hn
    cases cs with
    | nil => simp at hn
    | cons a cs =>
      cases i with
      | zero => rfl
      | succ i =>
        have := ih (cs := cs) (i := i) (by omega) (by simp at hn; omega)
        simpa [at1, rowsOf] using this
theorem cI_length (k : IntKind) (f : Nat → Int) : ∀ n j, (cI k f n j).length = n
  | 0, _ => rfl
  | n + 1, j => by simp [cI, cI_length k f n]
theorem cI_get (k : IntKind) (f : Nat → Int) : ∀ n j i, i < n → (dOf ((cI k f n j).getD i .undef)).int = f (j + i)
  | 0, _, _, h => by omega
  | n + 1, j, 0, _ => rfl
  | n + 1, j, i + 1, h => by
    have := cI_get k f n (j + 1) i (by omega)
    simp only [cI, List.getD_cons_succ]
    rw [this]; congr 1; omega
theorem at1_cI {k : IntKind} {f : Nat → Int} {n i : Nat} (hi : i < n) : at1 (rowsOf 1 n (cI k f n 0)) i = f i := by
  rw [at1_rows hi (by rw [cI_length]; exact Nat.le_refl _), cI_get k f n 0 i hi]; simp
end Go.Sy
end

section
/- What the kernel is asked of each function's row. Written by a program of this session's own (genk.py). -/
namespace Go.Proofs.YtlgmbpnlakjefaaDoor
open Go.Sy
set_option maxRecDepth 10000
theorem k58 : fnChk Tryd.prog 58 (Tryd.f58.body.getD .skip) Tryd.f58.ntmps Tryd.f58.results.toList := ⟨Tryd.f58, by kernel_rfl, rfl, rfl, rfl, by decide⟩
theorem o58 : codeOk (Tryd.f58.body.getD .skip) = true := by kernel_rfl
theorem k22 : fnChk Tryd.prog 22 (Tryd.f22.body.getD .skip) Tryd.f22.ntmps Tryd.f22.results.toList := ⟨Tryd.f22, by kernel_rfl, rfl, rfl, rfl, by decide⟩
theorem o22 : codeOk (Tryd.f22.body.getD .skip) = true := by kernel_rfl
theorem k71 : fnChk Tryd.prog 71 (Tryd.f71.body.getD .skip) Tryd.f71.ntmps Tryd.f71.results.toList := ⟨Tryd.f71, by kernel_rfl, rfl, rfl, rfl, by decide⟩
theorem o71 : codeOk (Tryd.f71.body.getD .skip) = true := by kernel_rfl
theorem k61 : fnChk Tryd.prog 61 (Tryd.f61.body.getD .skip) Tryd.f61.ntmps Tryd.f61.results.toList := ⟨Tryd.f61, by kernel_rfl, rfl, rfl, rfl, by decide⟩
theorem o61 : codeOk (Tryd.f61.body.getD .skip) = true := by kernel_rfl
theorem k62 : fnChk Tryd.prog 62 (Tryd.f62.body.getD .skip) Tryd.f62.ntmps Tryd.f62.results.toList := ⟨Tryd.f62, by kernel_rfl, rfl, rfl, rfl, by decide⟩
theorem o62 : codeOk (Tryd.f62.body.getD .skip) = true := by kernel_rfl
theorem k70 : fnChk Tryd.prog 70 (Tryd.f70.body.getD .skip) Tryd.f70.ntmps Tryd.f70.results.toList := ⟨Tryd.f70, by kernel_rfl, rfl, rfl, rfl, by decide⟩
theorem o70 : codeOk (Tryd.f70.body.getD .skip) = true := by kernel_rfl
theorem k60 : fnChk Tryd.prog 60 (Tryd.f60.body.getD .skip) Tryd.f60.ntmps Tryd.f60.results.toList := ⟨Tryd.f60, by kernel_rfl, rfl, rfl, rfl, by decide⟩
theorem o60 : codeOk (Tryd.f60.body.getD .skip) = true := by kernel_rfl
theorem k63 : fnChk Tryd.prog 63 (Tryd.f63.body.getD .skip) Tryd.f63.ntmps Tryd.f63.results.toList := ⟨Tryd.f63, by kernel_rfl, rfl, rfl, rfl, by decide⟩
theorem o63 : codeOk (Tryd.f63.body.getD .skip) = true := by kernel_rfl
theorem k72 : fnChk Tryd.prog 72 (Tryd.f72.body.getD .skip) Tryd.f72.ntmps Tryd.f72.results.toList := ⟨Tryd.f72, by kernel_rfl, rfl, rfl, rfl, by decide⟩
theorem o72 : codeOk (Tryd.f72.body.getD .skip) = true := by kernel_rfl
theorem k73 : fnChk Tryd.prog 73 (Tryd.f73.body.getD .skip) Tryd.f73.ntmps Tryd.f73.results.toList := ⟨Tryd.f73, by kernel_rfl, rfl, rfl, rfl, by decide⟩
theorem o73 : codeOk (Tryd.f73.body.getD .skip) = true := by kernel_rfl
theorem k65 : fnChk Tryd.prog 65 (Tryd.f65.body.getD .skip) Tryd.f65.ntmps Tryd.f65.results.toList := ⟨Tryd.f65, by kernel_rfl, rfl, rfl, rfl, by decide⟩
theorem o65 : codeOk (Tryd.f65.body.getD .skip) = true := by kernel_rfl
theorem k66 : fnChk Tryd.prog 66 (Tryd.f66.body.getD .skip) Tryd.f66.ntmps Tryd.f66.results.toList := ⟨Tryd.f66, by kernel_rfl, rfl, rfl, rfl, by decide⟩
theorem o66 : codeOk (Tryd.f66.body.getD .skip) = true := by kernel_rfl
theorem k64 : fnChk Tryd.prog 64 (Tryd.f64.body.getD .skip) Tryd.f64.ntmps Tryd.f64.results.toList := ⟨Tryd.f64, by kernel_rfl, rfl, rfl, rfl, by decide⟩
theorem o64 : codeOk (Tryd.f64.body.getD .skip) = true := by kernel_rfl
theorem k67 : fnChk Tryd.prog 67 (Tryd.f67.body.getD .skip) Tryd.f67.ntmps Tryd.f67.results.toList := ⟨Tryd.f67, by kernel_rfl, rfl, rfl, rfl, by decide⟩
theorem o67 : codeOk (Tryd.f67.body.getD .skip) = true := by kernel_rfl
theorem k55 : fnChk Tryd.prog 55 (Tryd.f55.body.getD .skip) Tryd.f55.ntmps Tryd.f55.results.toList := ⟨Tryd.f55, by kernel_rfl, rfl, rfl, rfl, by decide⟩
theorem o55 : codeOk (Tryd.f55.body.getD .skip) = true := by kernel_rfl
theorem k53 : fnChk Tryd.prog 53 (Tryd.f53.body.getD .skip) Tryd.f53.ntmps Tryd.f53.results.toList := ⟨Tryd.f53, by kernel_rfl, rfl, rfl, rfl, by decide⟩
theorem o53 : codeOk (Tryd.f53.body.getD .skip) = true := by kernel_rfl
theorem k54 : fnChk Tryd.prog 54 (Tryd.f54.body.getD .skip) Tryd.f54.ntmps Tryd.f54.results.toList := ⟨Tryd.f54, by kernel_rfl, rfl, rfl, rfl, by decide⟩
theorem o54 : codeOk (Tryd.f54.body.getD .skip) = true := by kernel_rfl
theorem k38 : fnChk Tryd.prog 38 (Tryd.f38.body.getD .skip) Tryd.f38.ntmps Tryd.f38.results.toList := ⟨Tryd.f38, by kernel_rfl, rfl, rfl, rfl, by decide⟩
theorem o38 : codeOk (Tryd.f38.body.getD .skip) = true := by kernel_rfl
theorem k68 : fnChk Tryd.prog 68 (Tryd.f68.body.getD .skip) Tryd.f68.ntmps Tryd.f68.results.toList := ⟨Tryd.f68, by kernel_rfl, rfl, rfl, rfl, by decide⟩
theorem o68 : codeOk (Tryd.f68.body.getD .skip) = true := by kernel_rfl
theorem k69 : fnChk Tryd.prog 69 (Tryd.f69.body.getD .skip) Tryd.f69.ntmps Tryd.f69.results.toList := ⟨Tryd.f69, by kernel_rfl, rfl, rfl, rfl, by decide⟩
theorem o69 : codeOk (Tryd.f69.body.getD .skip) = true := by kernel_rfl
theorem k56 : fnChk Tryd.prog 56 (Tryd.f56.body.getD .skip) Tryd.f56.ntmps Tryd.f56.results.toList := ⟨Tryd.f56, by kernel_rfl, rfl, rfl, rfl, by decide⟩
theorem o56 : codeOk (Tryd.f56.body.getD .skip) = true := by kernel_rfl
theorem k39 : fnChk Tryd.prog 39 (Tryd.f39.body.getD .skip) Tryd.f39.ntmps Tryd.f39.results.toList := ⟨Tryd.f39, by kernel_rfl, rfl, rfl, rfl, by decide⟩
theorem o39 : codeOk (Tryd.f39.body.getD .skip) = true := by kernel_rfl
theorem k46 : fnChk Tryd.prog 46 (Tryd.f46.body.getD .skip) Tryd.f46.ntmps Tryd.f46.results.toList := ⟨Tryd.f46, by kernel_rfl, rfl, rfl, rfl, by decide⟩
theorem o46 : codeOk (Tryd.f46.body.getD .skip) = true := by kernel_rfl
theorem k48 : fnChk Tryd.prog 48 (Tryd.f48.body.getD .skip) Tryd.f48.ntmps Tryd.f48.results.toList := ⟨Tryd.f48, by kernel_rfl, rfl, rfl, rfl, by decide⟩
theorem o48 : codeOk (Tryd.f48.body.getD .skip) = true := by kernel_rfl
theorem k49 : fnChk Tryd.prog 49 (Tryd.f49.body.getD .skip) Tryd.f49.ntmps Tryd.f49.results.toList := ⟨Tryd.f49, by kernel_rfl, rfl, rfl, rfl, by decide⟩
theorem o49 : codeOk (Tryd.f49.body.getD .skip) = true := by kernel_rfl
theorem k47 : fnChk Tryd.prog 47 (Tryd.f47.body.getD .skip) Tryd.f47.ntmps Tryd.f47.results.toList := ⟨Tryd.f47, by kernel_rfl, rfl, rfl, rfl, by decide⟩
theorem o47 : codeOk (Tryd.f47.body.getD .skip) = true := by kernel_rfl
theorem k59 : fnChk Tryd.prog 59 (Tryd.f59.body.getD .skip) Tryd.f59.ntmps Tryd.f59.results.toList := ⟨Tryd.f59, by kernel_rfl, rfl, rfl, rfl, by decide⟩
theorem o59 : codeOk (Tryd.f59.body.getD .skip) = true := by kernel_rfl
theorem k50 : fnChk Tryd.prog 50 (Tryd.f50.body.getD .skip) Tryd.f50.ntmps Tryd.f50.results.toList := ⟨Tryd.f50, by kernel_rfl, rfl, rfl, rfl, by decide⟩
theorem o50 : codeOk (Tryd.f50.body.getD .skip) = true := by kernel_rfl
theorem k52 : fnChk Tryd.prog 52 (Tryd.f52.body.getD .skip) Tryd.f52.ntmps Tryd.f52.results.toList := ⟨Tryd.f52, by kernel_rfl, rfl, rfl, rfl, by decide⟩
theorem o52 : codeOk (Tryd.f52.body.getD .skip) = true := by kernel_rfl
theorem k51 : fnChk Tryd.prog 51 (Tryd.f51.body.getD .skip) Tryd.f51.ntmps Tryd.f51.results.toList := ⟨Tryd.f51, by kernel_rfl, rfl, rfl, rfl, by decide⟩
theorem o51 : codeOk (Tryd.f51.body.getD .skip) = true := by kernel_rfl
theorem k36 : fnChk Tryd.prog 36 (Tryd.f36.body.getD .skip) Tryd.f36.ntmps Tryd.f36.results.toList := ⟨Tryd.f36, by kernel_rfl, rfl, rfl, rfl, by decide⟩
theorem o36 : codeOk (Tryd.f36.body.getD .skip) = true := by kernel_rfl
theorem k35 : fnChk Tryd.prog 35 (Tryd.f35.body.getD .skip) Tryd.f35.ntmps Tryd.f35.results.toList := ⟨Tryd.f35, by kernel_rfl, rfl, rfl, rfl, by decide⟩
theorem o35 : codeOk (Tryd.f35.body.getD .skip) = true := by kernel_rfl
theorem k20 : fnChk Tryd.prog 20 (Tryd.f20.body.getD .skip) Tryd.f20.ntmps Tryd.f20.results.toList := ⟨Tryd.f20, by kernel_rfl, rfl, rfl, rfl, by decide⟩
theorem o20 : codeOk (Tryd.f20.body.getD .skip) = true := by kernel_rfl
theorem k18 : fnChk Tryd.prog 18 (Tryd.f18.body.getD .skip) Tryd.f18.ntmps Tryd.f18.results.toList := ⟨Tryd.f18, by kernel_rfl, rfl, rfl, rfl, by decide⟩
theorem o18 : codeOk (Tryd.f18.body.getD .skip) = true := by kernel_rfl
theorem k37 : fnChk Tryd.prog 37 (Tryd.f37.body.getD .skip) Tryd.f37.ntmps Tryd.f37.results.toList := ⟨Tryd.f37, by kernel_rfl, rfl, rfl, rfl, by decide⟩
theorem o37 : codeOk (Tryd.f37.body.getD .skip) = true := by kernel_rfl
theorem k19 : fnChk Tryd.prog 19 (Tryd.f19.body.getD .skip) Tryd.f19.ntmps Tryd.f19.results.toList := ⟨Tryd.f19, by kernel_rfl, rfl, rfl, rfl, by decide⟩
theorem o19 : codeOk (Tryd.f19.body.getD .skip) = true := by kernel_rfl
theorem k21 : fnChk Tryd.prog 21 (Tryd.f21.body.getD .skip) Tryd.f21.ntmps Tryd.f21.results.toList := ⟨Tryd.f21, by kernel_rfl, rfl, rfl, rfl, by decide⟩
theorem o21 : codeOk (Tryd.f21.body.getD .skip) = true := by kernel_rfl
theorem k23 : fnChk Tryd.prog 23 (Tryd.f23.body.getD .skip) Tryd.f23.ntmps Tryd.f23.results.toList := ⟨Tryd.f23, by kernel_rfl, rfl, rfl, rfl, by decide⟩
theorem o23 : codeOk (Tryd.f23.body.getD .skip) = true := by kernel_rfl
theorem k8 : fnChk Tryd.prog 8 (Tryd.f8.body.getD .skip) Tryd.f8.ntmps Tryd.f8.results.toList := ⟨Tryd.f8, by kernel_rfl, rfl, rfl, rfl, by decide⟩
theorem o8 : codeOk (Tryd.f8.body.getD .skip) = true := by kernel_rfl
theorem k4 : fnChk Tryd.prog 4 (Tryd.f4.body.getD .skip) Tryd.f4.ntmps Tryd.f4.results.toList := ⟨Tryd.f4, by kernel_rfl, rfl, rfl, rfl, by decide⟩
theorem o4 : codeOk (Tryd.f4.body.getD .skip) = true := by kernel_rfl
end Go.Proofs.YtlgmbpnlakjefaaDoor
end

section
/- Contracts: factorials; numbers modulo 31. -/
namespace Go.Proofs.YtlgmbpnlakjefaaDoor
open Go.Sy
set_option maxRecDepth 10000
set_option linter.unusedSimpArgs false
set_option linter.unusedVariables false
def fact : Nat → Nat
  | 0 => 1
  | n + 1 => fact n * (n + 1)
def cFact : Con := fun args h K => match args with
  | [.int .i64 n] => match h with
    | [] => Chk (fun _ => 0 ≤ n.v ∧ n.v ≤ 20) fun _ => K (.int .i64 (.t fun _ => ofN (fact n.v.toNat))) []
    | _ => False
  | _ => False
theorem fact_le : ∀ n m, n ≤ m → fact n ≤ fact m := by
  intro n m h
  induction m with
  | zero => simp at h; subst h; exact Nat.le_refl _
  | succ m ih =>
    rcases Nat.lt_or_ge n (m + 1) with h1 | h1
    · have := ih (by omega)
      simp only [fact]
      exact Nat.le_trans this (Nat.le_mul_of_pos_right _ (by omega))
    · have : n = m + 1 := by omega
      subst this; exact Nat.le_refl _
theorem s58 : Sound Tryd.prog 58 cFact := by
  refine k58.kept tabOk envOk_nil mixed o58 fun args h K hc => ?_
  unfold cFact at hc
  split at hc
  · rename_i n
    split at hc
    · cases hc with
      | mk h1 h2 =>
        refine ⟨[.int .i64 (.t fun _ => n.v)], [], Ent.cons (ent_int _ _) Ent.nil, trivial, ?_⟩
        revert h1 h2
        generalize n.v = a
        intro h1 h2
        cbv
        refine loop_inv [3, 5, 6] (fun (i : Nat) => i ≤ a.toNat) (fun i => ⟨[.undef, .undef, .undef, .int .i64 (.t fun _ => ofN (fact i)), .undef, .int .i64 (.t fun _ => a), .int .i64 (.t fun _ => ofN i), .undef, .undef, .undef, .undef, .undef, .undef, .undef, .undef], []⟩) (fun i => a.toNat - i) 0 ?_ ?_ ?_
        · exact Nat.zero_le _
        · cbv
          exact ⟨⟨.mk rfl, .mk rfl, .mk rfl, trivial⟩, trivial⟩
        · intro i R hi hR
          have i0 := ofN_nonneg i
          cbv
          refine Br.mk (fun hb => ?_) (fun hb => ?_)
          · have hb := lt_t.1 hb
            have e2 : ofN (fact (i + 1)) = ofN (fact i) * (ofN i + 1) := by simp [ofN, fact]
            have f0 := ofN_nonneg (fact (i + 1))
            have hi2 : i + 1 ≤ a.toNat := by simp only [ofN] at hb; omega
            have hf : ofN (fact (i + 1)) ≤ 2432902008176640000 := by
              have h20 : fact 20 = 2432902008176640000 := by decide
              have h := fact_le (i + 1) 20 (by simp only [ofN] at hb; omega)
              rw [h20] at h
              simp only [ofN]; omega
            rw [e2] at f0 hf
            cbv
            refine Chk.mk (inR64 (by simp only [aop_add]; omega)) ?_
            cbv
            refine Chk.mk (inR64 (by simp only [aop_add, aop_mul]; omega)) ?_
            cbv
            refine Chk.mk (inR64 (by simp only [aop_add]; omega)) ?_
            cbv
            refine .mk (hR (i + 1) _ hi2 (by omega) ?_)
            cbv
            exact ⟨⟨.mk e2.symm, .mk rfl, .mk (ofN_succ i).symm, trivial⟩, trivial⟩
          · have hb := lt_f.1 hb
            cbv
            refine .mk ?_
            cbv
            refine .mk _ _ h2 ⟨trivial, .mk ?_⟩ trivial
            have : i = a.toNat := by simp only [ofN] at hb; omega
            rw [this]
    · exact hc.elim
  · exact hc.elim

/-! ### numbers modulo 31 -/
def m31 (n : Int) : Int := n % 31
theorem m31_of (n : Int) : (n.tmod 31 + 31).tmod 31 = m31 n := by
  unfold m31
  rw [Int.tmod_eq_emod_of_nonneg (a := n.tmod 31 + 31) (by have := Int.lt_tmod_of_pos n (show (0:Int) < 31 by decide); omega)]
  rw [Int.add_emod_right, Int.tmod_def]
  omega
theorem m31_range (n : Int) : 0 ≤ m31 n ∧ m31 n < 31 := by unfold m31; omega
def small (n : Int) : Prop := -4611686018427387904 ≤ n ∧ n ≤ 4611686018427387904
def cOf : Con := fun args h K => match args with
  | [.int .i64 n] => match h with
    | [] => Chk (fun _ => small n.v) fun _ => K (.int .i64 (.t fun _ => m31 n.v)) []
    | _ => False
  | _ => False
theorem s71 : Sound Tryd.prog 71 cOf := by
  refine k71.kept tabOk envOk_nil mixed o71 fun args h K hc => ?_
  unfold cOf at hc
  split at hc
  · rename_i n
    split at hc
    · cases hc with
      | mk h1 h2 =>
        refine ⟨_, [], Ent.cons (ent_int _ _) Ent.nil, trivial, ?_⟩
        revert h1 h2
        generalize n.v = a
        intro h1 h2
        cbv
        refine Chk.mk (inR64 ?_) ?_
        · rw [aop_add, aop_rem]
          have := Int.lt_tmod_of_pos a (show (0 : Int) < 31 by decide)
          have := Int.tmod_lt_of_pos a (show (0 : Int) < 31 by decide)
          omega
        · cbv
          exact .mk _ _ h2 ⟨trivial, .mk (m31_of a)⟩ trivial
    · exact hc.elim
  · exact hc.elim
def opOf (g : Nat) (x y : Int) : Int :=
  match g with
  | 61 => m31 (x - y)
  | 62 => m31 (x * y)
  | _ => m31 (x + y)
def byte (n : Int) : Prop := 0 ≤ n ∧ n ≤ 255
/-- minus (61), times (62), plus (70) -/
def cRes (g : Nat) : Con := fun args h K => match args with
  | [.int .i64 a, .int .i64 b] => match h with
    | [] => Chk (fun _ => -1000 ≤ a.v ∧ a.v ≤ 1000 ∧ -1000 ≤ b.v ∧ b.v ≤ 1000) fun _ => K (.int .i64 (.t fun _ => opOf g a.v b.v)) []
    | _ => False
  | _ => False
theorem e1 : EnvOk Tryd.prog (env [(71, cOf)]) := envOk_cons envOk_nil s71 k71.callable
theorem prod_small {a b : Int} (h : -1000 ≤ a ∧ a ≤ 1000 ∧ -1000 ≤ b ∧ b ≤ 1000) : -1000000 ≤ a * b ∧ a * b ≤ 1000000 := by
  obtain ⟨h1, h2, h3, h4⟩ := h
  have e1 : (1000 - a) * (1000 - b) ≥ 0 := Int.mul_nonneg (by omega) (by omega)
  have e2 : (1000 + a) * (1000 + b) ≥ 0 := Int.mul_nonneg (by omega) (by omega)
  have e3 : (1000 - a) * (1000 + b) ≥ 0 := Int.mul_nonneg (by omega) (by omega)
  have e4 : (1000 + a) * (1000 - b) ≥ 0 := Int.mul_nonneg (by omega) (by omega)
  simp only [Int.sub_mul, Int.mul_sub, Int.add_mul, Int.mul_add] at e1 e2 e3 e4
  omega
theorem s61 : Sound Tryd.prog 61 (cRes 61) := by
  refine k61.kept tabOk e1 mixed o61 fun args h K hc => ?_
  unfold cRes at hc
  split at hc
  · rename_i x y
    split at hc
    · cases hc with
      | mk h1 h2 =>
        refine ⟨_, [], Ent.cons (ent_int _ _) (Ent.cons (ent_int _ _) Ent.nil), trivial, ?_⟩
        revert h1 h2
        generalize x.v = a
        generalize y.v = b
        intro h1 h2
        cbv
        refine Chk.mk (inR64 (by rw [aop_sub]; omega)) ?_
        cbv
        refine Chk.mk (by simp only [IX.v, aop_sub, small]; omega) ?_
        cbv
        exact .mk _ _ h2 ⟨trivial, .mk rfl⟩ trivial
    · exact hc.elim
  · exact hc.elim
theorem s62 : Sound Tryd.prog 62 (cRes 62) := by
  refine k62.kept tabOk e1 mixed o62 fun args h K hc => ?_
  unfold cRes at hc
  split at hc
  · rename_i x y
    split at hc
    · cases hc with
      | mk h1 h2 =>
        refine ⟨_, [], Ent.cons (ent_int _ _) (Ent.cons (ent_int _ _) Ent.nil), trivial, ?_⟩
        revert h1 h2
        generalize x.v = a
        generalize y.v = b
        intro h1 h2
        have hp := prod_small h1
        cbv
        refine Chk.mk (inR64 (by rw [aop_mul]; omega)) ?_
        cbv
        refine Chk.mk (by simp only [IX.v, aop_mul, small]; omega) ?_
        cbv
        exact .mk _ _ h2 ⟨trivial, .mk rfl⟩ trivial
    · exact hc.elim
  · exact hc.elim
theorem s70 : Sound Tryd.prog 70 (cRes 70) := by
  refine k70.kept tabOk e1 mixed o70 fun args h K hc => ?_
  unfold cRes at hc
  split at hc
  · rename_i x y
    split at hc
    · cases hc with
      | mk h1 h2 =>
        refine ⟨_, [], Ent.cons (ent_int _ _) (Ent.cons (ent_int _ _) Ent.nil), trivial, ?_⟩
        revert h1 h2
        generalize x.v = a
        generalize y.v = b
        intro h1 h2
        cbv
        refine Chk.mk (inR64 (by rw [aop_add]; omega)) ?_
        cbv
        refine Chk.mk (by simp only [IX.v, aop_add, small]; omega) ?_
        cbv
        exact .mk _ _ h2 ⟨trivial, .mk rfl⟩ trivial
    · exact hc.elim
  · exact hc.elim
theorem e2 : EnvOk Tryd.prog (env [(61, cRes 61), (62, cRes 62), (70, cRes 70), (71, cOf)]) :=
  envOk_cons (envOk_cons (envOk_cons e1 s70 k70.callable) s62 k62.callable) s61 k61.callable
end Go.Proofs.YtlgmbpnlakjefaaDoor
end

section
/- Contracts: lists of numbers modulo 31, entry by entry. -/
namespace Go.Proofs.YtlgmbpnlakjefaaDoor
open Go.Sy
set_option maxRecDepth 10000
set_option linter.unusedSimpArgs false
set_option linter.unusedVariables false

def upto (i : Nat) (f : Nat → Int) (j : Nat) : Int := if j < i then f j else 0
theorem upto_zero (n : Nat) (f : Nat → Int) : List.replicate n [D.i 0] = arrOf n (upto 0 f) := arrOf_zero n _ fun i _ => by simp [upto]
theorem upto_put {n i : Nat} (hi : i < n) (f : Nat → Int) (x : Int) (h : x = f i) : (arrOf n (upto i f)).set i (((arrOf n (upto i f)).getD i []).set 0 (.i x)) = arrOf n (upto (i + 1) f) := by
  rw [arrOf_set hi]
  refine arrOf_congr fun j hj => ?_
  unfold put1 upto
  by_cases e : j = i
  · subst e; simp [h]
  · simp only [e, if_false]
    by_cases e2 : j < i
    · rw [if_pos e2, if_pos (by omega)]
    · rw [if_neg e2, if_neg (by omega)]
theorem upto_full (n : Nat) (f : Nat → Int) : arrOf n (upto n f) = arrOf n f := arrOf_congr fun i hi => by simp [upto, hi]
def eachOf (g : Nat) (la lb : List (List D)) (i : Nat) : Int := opOf g (at1 la i) (at1 lb i)
def bytes15 (la lb : List (List D)) : Prop := ∀ i, i < 15 → byte (at1 la i) ∧ byte (at1 lb i)
def cEach : Con := fun args h K => match args with
  | [.func (.func g) [] [], a, b] => match h with
    | [] => match memN [61, 62, 70] g with
      | true => asRows [.int .u8] 15 a fun la => asRows [.int .u8] 15 b fun lb => Chk (fun _ => bytes15 (la ()) (lb ())) fun _ => K (.arr [.int .u8] fun _ => arrOf 15 (eachOf g (la ()) (lb ()))) []
      | false => False
    | _ => False
  | _ => False
theorem opOf_range (g : Nat) (x y : Int) : 0 ≤ opOf g x y ∧ opOf g x y < 31 := by
  unfold opOf; split <;> exact m31_range _
theorem wrap64 {x : Int} (h : -9223372036854775808 ≤ x ∧ x ≤ 9223372036854775807) : IntKind.i64.wrap x = x := wrap_inR (inR64 h)
theorem wrap8 {x : Int} (h : 0 ≤ x ∧ x ≤ 255) : IntKind.u8.wrap x = x := wrap_inR (by simp [inR, IntKind.min, IntKind.max, IntKind.signed, IntKind.bits]; omega)
theorem each_keeps_104 {la lb : List (List D)} (l1 : la.length = 15) (l2 : lb.length = 15) (hb : bytes15 la lb) {K : AV → Heap → Prop} (h2 : K (.arr [.int .u8] fun _ => arrOf 15 (eachOf 61 la lb)) []) :
    eFunc tab (env [(61, cRes 61), (62, cRes 62), (70, cRes 70), (71, cOf)]) (Tryd.f60.body.getD .skip) Tryd.f60.ntmps Tryd.f60.results.toList [.func (.func 61) [] [], .arr [.int .u8] fun _ => la, .arr [.int .u8] fun _ => lb] [] (Ret K) := by
  cbv
  refine Chk.mk l1 ?_
  cbv
  refine Chk.mk l2 ?_
  cbv
  refine loop_inv [0, 4, 5, 6, 7, 9] (fun (i : Nat) => i ≤ 15) (fun i => ⟨[.func (.func 61) [] [], .undef, .undef, .undef, .ptr 0 (.l 0) (.l 0), .ptr 1 (.l 0) (.l 0), .ptr 2 (.l 0) (.l 0), .ptr 3 (.l 0) (.l 0), .undef, .int .i64 (.t fun _ => ofN i),
      .undef, .undef, .undef, .undef, .undef, .undef, .undef, .undef, .undef, .undef, .undef, .undef, .undef, .undef, .undef, .undef, .undef],
    [some ⟨true, .rows [.int .u8] fun _ => la⟩, some ⟨true, .rows [.int .u8] fun _ => lb⟩, some ⟨true, .rows [.int .u8] fun _ => arrOf 15 (upto 0 (eachOf 61 la lb))⟩, some ⟨true, .rows [.int .u8] fun _ => arrOf 15 (upto i (eachOf 61 la lb))⟩]⟩)
    (fun i => 15 - i) 0 (Nat.zero_le _) ?_ ?_
  · cbv
    exact ⟨⟨.mk rfl, trivial⟩, .mk rfl, .mk rfl, .mk (upto_zero 15 _), .mk (upto_zero 15 _), trivial⟩
  · intro i R hi hR
    have i0 := ofN_nonneg i
    cbv
    refine Br.mk (fun hc => ?_) (fun hc => ?_)
    · have hi2 : i < 15 := by have := lt_t.1 hc; simp only [ofN] at this; omega
      cbv
      refine Chk.mk (ofN_in hi2) ?_
      cbv
      refine Chk.mk (ofN_in hi2) ?_
      cbv
      refine Chk.mk (ofN_len hi2 l1) ?_
      cbv
      refine Chk.mk (ofN_len hi2 l2) ?_
      cbv
      have ea : IntKind.i64.wrap (at1 la i) = at1 la i := by have := (hb i hi2).1; unfold byte at this; exact wrap64 (by omega)
      have eb : IntKind.i64.wrap (at1 lb i) = at1 lb i := by have := (hb i hi2).2; unfold byte at this; exact wrap64 (by omega)
      refine Chk.mk ?_ ?_
      · show -1000 ≤ IntKind.i64.wrap (at1 la (ofN i).toNat) ∧ IntKind.i64.wrap (at1 la (ofN i).toNat) ≤ 1000 ∧ -1000 ≤ IntKind.i64.wrap (at1 lb (ofN i).toNat) ∧ IntKind.i64.wrap (at1 lb (ofN i).toNat) ≤ 1000
        rw [toNat_ofN, ea, eb]
        have := hb i hi2
        unfold byte at this
        omega
      cbv
      refine Chk.mk (ofN_in hi2) ?_
      cbv
      refine Chk.mk (ofN_len hi2 (arrOf_length _ _)) ?_
      cbv
      refine Chk.mk (inR64 (by rw [aop_add]; simp only [ofN]; omega)) ?_
      cbv
      refine .mk (hR (i + 1) _ hi2 (by omega) ?_)
      cbv
      refine ⟨⟨.mk (ofN_succ i).symm, trivial⟩, .mk rfl, .mk rfl, .mk rfl, .mk ?_, trivial⟩
      refine upto_put hi2 (eachOf 61 la lb) _ ?_
      show IntKind.u8.wrap (opOf 61 (IntKind.i64.wrap (at1 la (ofN i).toNat)) (IntKind.i64.wrap (at1 lb (ofN i).toNat))) = eachOf 61 la lb i
      rw [toNat_ofN, ea, eb]
      have := opOf_range 61 (at1 la i) (at1 lb i)
      exact wrap8 (by omega)
    · have hi2 : i = 15 := by have := lt_f.1 hc; simp only [ofN] at this; omega
      subst hi2
      cbv
      refine .mk ?_
      cbv
      refine Chk.mk (arrOf_length _ _) ?_
      cbv
      refine Chk.mk (arrOf_length _ _) ?_
      cbv
      refine Chk.mk (arrOf_length _ _) ?_
      cbv
      refine Chk.mk (arrOf_length _ _) ?_
      cbv
      exact .mk _ _ h2 ⟨trivial, .mk (upto_full 15 _)⟩ trivial
theorem each_keeps_105 {la lb : List (List D)} (l1 : la.length = 15) (l2 : lb.length = 15) (hb : bytes15 la lb) {K : AV → Heap → Prop} (h2 : K (.arr [.int .u8] fun _ => arrOf 15 (eachOf 62 la lb)) []) :
    eFunc tab (env [(61, cRes 61), (62, cRes 62), (70, cRes 70), (71, cOf)]) (Tryd.f60.body.getD .skip) Tryd.f60.ntmps Tryd.f60.results.toList [.func (.func 62) [] [], .arr [.int .u8] fun _ => la, .arr [.int .u8] fun _ => lb] [] (Ret K) := by
  cbv
  refine Chk.mk l1 ?_
  cbv
  refine Chk.mk l2 ?_
  cbv
  refine loop_inv [0, 4, 5, 6, 7, 9] (fun (i : Nat) => i ≤ 15) (fun i => ⟨[.func (.func 62) [] [], .undef, .undef, .undef, .ptr 0 (.l 0) (.l 0), .ptr 1 (.l 0) (.l 0), .ptr 2 (.l 0) (.l 0), .ptr 3 (.l 0) (.l 0), .undef, .int .i64 (.t fun _ => ofN i),
      .undef, .undef, .undef, .undef, .undef, .undef, .undef, .undef, .undef, .undef, .undef, .undef, .undef, .undef, .undef, .undef, .undef],
    [some ⟨true, .rows [.int .u8] fun _ => la⟩, some ⟨true, .rows [.int .u8] fun _ => lb⟩, some ⟨true, .rows [.int .u8] fun _ => arrOf 15 (upto 0 (eachOf 62 la lb))⟩, some ⟨true, .rows [.int .u8] fun _ => arrOf 15 (upto i (eachOf 62 la lb))⟩]⟩)
    (fun i => 15 - i) 0 (Nat.zero_le _) ?_ ?_
  · cbv
    exact ⟨⟨.mk rfl, trivial⟩, .mk rfl, .mk rfl, .mk (upto_zero 15 _), .mk (upto_zero 15 _), trivial⟩
  · intro i R hi hR
    have i0 := ofN_nonneg i
    cbv
    refine Br.mk (fun hc => ?_) (fun hc => ?_)
    · have hi2 : i < 15 := by have := lt_t.1 hc; simp only [ofN] at this; omega
      cbv
      refine Chk.mk (ofN_in hi2) ?_
      cbv
      refine Chk.mk (ofN_in hi2) ?_
      cbv
      refine Chk.mk (ofN_len hi2 l1) ?_
      cbv
      refine Chk.mk (ofN_len hi2 l2) ?_
      cbv
      have ea : IntKind.i64.wrap (at1 la i) = at1 la i := by have := (hb i hi2).1; unfold byte at this; exact wrap64 (by omega)
      have eb : IntKind.i64.wrap (at1 lb i) = at1 lb i := by have := (hb i hi2).2; unfold byte at this; exact wrap64 (by omega)
      refine Chk.mk ?_ ?_
      · show -1000 ≤ IntKind.i64.wrap (at1 la (ofN i).toNat) ∧ IntKind.i64.wrap (at1 la (ofN i).toNat) ≤ 1000 ∧ -1000 ≤ IntKind.i64.wrap (at1 lb (ofN i).toNat) ∧ IntKind.i64.wrap (at1 lb (ofN i).toNat) ≤ 1000
        rw [toNat_ofN, ea, eb]
        have := hb i hi2
        unfold byte at this
        omega
      cbv
      refine Chk.mk (ofN_in hi2) ?_
      cbv
      refine Chk.mk (ofN_len hi2 (arrOf_length _ _)) ?_
      cbv
      refine Chk.mk (inR64 (by rw [aop_add]; simp only [ofN]; omega)) ?_
      cbv
      refine .mk (hR (i + 1) _ hi2 (by omega) ?_)
      cbv
      refine ⟨⟨.mk (ofN_succ i).symm, trivial⟩, .mk rfl, .mk rfl, .mk rfl, .mk ?_, trivial⟩
      refine upto_put hi2 (eachOf 62 la lb) _ ?_
      show IntKind.u8.wrap (opOf 62 (IntKind.i64.wrap (at1 la (ofN i).toNat)) (IntKind.i64.wrap (at1 lb (ofN i).toNat))) = eachOf 62 la lb i
      rw [toNat_ofN, ea, eb]
      have := opOf_range 62 (at1 la i) (at1 lb i)
      exact wrap8 (by omega)
    · have hi2 : i = 15 := by have := lt_f.1 hc; simp only [ofN] at this; omega
      subst hi2
      cbv
      refine .mk ?_
      cbv
      refine Chk.mk (arrOf_length _ _) ?_
      cbv
      refine Chk.mk (arrOf_length _ _) ?_
      cbv
      refine Chk.mk (arrOf_length _ _) ?_
      cbv
      refine Chk.mk (arrOf_length _ _) ?_
      cbv
      exact .mk _ _ h2 ⟨trivial, .mk (upto_full 15 _)⟩ trivial
theorem each_keeps_113 {la lb : List (List D)} (l1 : la.length = 15) (l2 : lb.length = 15) (hb : bytes15 la lb) {K : AV → Heap → Prop} (h2 : K (.arr [.int .u8] fun _ => arrOf 15 (eachOf 70 la lb)) []) :
    eFunc tab (env [(61, cRes 61), (62, cRes 62), (70, cRes 70), (71, cOf)]) (Tryd.f60.body.getD .skip) Tryd.f60.ntmps Tryd.f60.results.toList [.func (.func 70) [] [], .arr [.int .u8] fun _ => la, .arr [.int .u8] fun _ => lb] [] (Ret K) := by
  cbv
  refine Chk.mk l1 ?_
  cbv
  refine Chk.mk l2 ?_
  cbv
  refine loop_inv [0, 4, 5, 6, 7, 9] (fun (i : Nat) => i ≤ 15) (fun i => ⟨[.func (.func 70) [] [], .undef, .undef, .undef, .ptr 0 (.l 0) (.l 0), .ptr 1 (.l 0) (.l 0), .ptr 2 (.l 0) (.l 0), .ptr 3 (.l 0) (.l 0), .undef, .int .i64 (.t fun _ => ofN i),
      .undef, .undef, .undef, .undef, .undef, .undef, .undef, .undef, .undef, .undef, .undef, .undef, .undef, .undef, .undef, .undef, .undef],
    [some ⟨true, .rows [.int .u8] fun _ => la⟩, some ⟨true, .rows [.int .u8] fun _ => lb⟩, some ⟨true, .rows [.int .u8] fun _ => arrOf 15 (upto 0 (eachOf 70 la lb))⟩, some ⟨true, .rows [.int .u8] fun _ => arrOf 15 (upto i (eachOf 70 la lb))⟩]⟩)
    (fun i => 15 - i) 0 (Nat.zero_le _) ?_ ?_
  · cbv
    exact ⟨⟨.mk rfl, trivial⟩, .mk rfl, .mk rfl, .mk (upto_zero 15 _), .mk (upto_zero 15 _), trivial⟩
  · intro i R hi hR
    have i0 := ofN_nonneg i
    cbv
    refine Br.mk (fun hc => ?_) (fun hc => ?_)
    · have hi2 : i < 15 := by have := lt_t.1 hc; simp only [ofN] at this; omega
      cbv
      refine Chk.mk (ofN_in hi2) ?_
      cbv
      refine Chk.mk (ofN_in hi2) ?_
      cbv
      refine Chk.mk (ofN_len hi2 l1) ?_
      cbv
      refine Chk.mk (ofN_len hi2 l2) ?_
      cbv
      have ea : IntKind.i64.wrap (at1 la i) = at1 la i := by have := (hb i hi2).1; unfold byte at this; exact wrap64 (by omega)
      have eb : IntKind.i64.wrap (at1 lb i) = at1 lb i := by have := (hb i hi2).2; unfold byte at this; exact wrap64 (by omega)
      refine Chk.mk ?_ ?_
      · show -1000 ≤ IntKind.i64.wrap (at1 la (ofN i).toNat) ∧ IntKind.i64.wrap (at1 la (ofN i).toNat) ≤ 1000 ∧ -1000 ≤ IntKind.i64.wrap (at1 lb (ofN i).toNat) ∧ IntKind.i64.wrap (at1 lb (ofN i).toNat) ≤ 1000
        rw [toNat_ofN, ea, eb]
        have := hb i hi2
        unfold byte at this
        omega
      cbv
      refine Chk.mk (ofN_in hi2) ?_
      cbv
      refine Chk.mk (ofN_len hi2 (arrOf_length _ _)) ?_
      cbv
      refine Chk.mk (inR64 (by rw [aop_add]; simp only [ofN]; omega)) ?_
      cbv
      refine .mk (hR (i + 1) _ hi2 (by omega) ?_)
      cbv
      refine ⟨⟨.mk (ofN_succ i).symm, trivial⟩, .mk rfl, .mk rfl, .mk rfl, .mk ?_, trivial⟩
      refine upto_put hi2 (eachOf 70 la lb) _ ?_
      show IntKind.u8.wrap (opOf 70 (IntKind.i64.wrap (at1 la (ofN i).toNat)) (IntKind.i64.wrap (at1 lb (ofN i).toNat))) = eachOf 70 la lb i
      rw [toNat_ofN, ea, eb]
      have := opOf_range 70 (at1 la i) (at1 lb i)
      exact wrap8 (by omega)
    · have hi2 : i = 15 := by have := lt_f.1 hc; simp only [ofN] at this; omega
      subst hi2
      cbv
      refine .mk ?_
      cbv
      refine Chk.mk (arrOf_length _ _) ?_
      cbv
      refine Chk.mk (arrOf_length _ _) ?_
      cbv
      refine Chk.mk (arrOf_length _ _) ?_
      cbv
      refine Chk.mk (arrOf_length _ _) ?_
      cbv
      exact .mk _ _ h2 ⟨trivial, .mk (upto_full 15 _)⟩ trivial
theorem s60 : Sound Tryd.prog 60 cEach := by
  refine k60.kept tabOk e2 mixed o60 fun args h K hc => ?_
  unfold cEach at hc
  split at hc
  · rename_i g a b
    split at hc
    · split at hc
      · rename_i hg
        obtain ⟨la, hc, l1, w1⟩ := asRows_arr (by decide) hc
        obtain ⟨lb, hc, l2, w2⟩ := asRows_arr (by decide) hc
        cases hc with
        | mk h1 h2 =>
          have hg : g = 61 ∨ g = 62 ∨ g = 70 := by
            have := (memN_iff _ _).1 hg
            simpa using this
          rcases hg with rfl | rfl | rfl
          · exact ⟨_, [], Ent.cons (ent_refl _) (Ent.cons w1 (Ent.cons w2 Ent.nil)), trivial, each_keeps_104 l1 l2 h1 h2⟩
          · exact ⟨_, [], Ent.cons (ent_refl _) (Ent.cons w1 (Ent.cons w2 Ent.nil)), trivial, each_keeps_105 l1 l2 h1 h2⟩
          · exact ⟨_, [], Ent.cons (ent_refl _) (Ent.cons w1 (Ent.cons w2 Ent.nil)), trivial, each_keeps_113 l1 l2 h1 h2⟩
      · exact hc.elim
    · exact hc.elim
  · exact hc.elim
end Go.Proofs.YtlgmbpnlakjefaaDoor
end

section
/- Contracts: the bits of a word as a list; the sum of a word and products; the other party's table. -/
namespace Go.Proofs.YtlgmbpnlakjefaaDoor
open Go.Sy
set_option maxRecDepth 10000
set_option linter.unusedSimpArgs false
set_option linter.unusedVariables false
/-- a bit of a word, as the code reckons it -/
def bitU (w : Int) (i : Nat) : Int := IntKind.u8.wrap (aop (.bits .and .u16) (aop (.shr .u16) w (ofN i)) 1)
def word16 (w : Int) : Prop := 0 ≤ w ∧ w ≤ 65535
def cMasks : Con := fun args h K => match args with
  | [.int .u16 w] => match h with
    | [] => K (.arr [.int .u8] fun _ => arrOf 15 (bitU w.v)) []
    | _ => False
  | _ => False
theorem s68 : Sound Tryd.prog 68 cMasks := by
  refine k68.kept tabOk envOk_nil mixed o68 fun args h K hc => ?_
  unfold cMasks at hc
  split at hc
  · rename_i n
    split at hc
    · refine ⟨_, [], Ent.cons (ent_int _ _) Ent.nil, trivial, ?_⟩
      revert hc
      generalize n.v = w
      intro h2
      cbv
      refine loop_inv [0, 2, 3, 5] (fun (i : Nat) => i ≤ 15) (fun i => ⟨[.int .u16 (.t fun _ => w), .undef, .ptr 0 (.l 0) (.l 0), .ptr 1 (.l 0) (.l 0), .undef, .int .i64 (.t fun _ => ofN i), .undef, .undef, .undef, .undef, .undef, .undef, .undef, .undef, .undef, .undef, .undef], [some ⟨true, .rows [.int .u8] fun _ => arrOf 15 (upto 0 (bitU w))⟩, some ⟨true, .rows [.int .u8] fun _ => arrOf 15 (upto i (bitU w))⟩]⟩) (fun i => 15 - i) 0 (Nat.zero_le _) ?_ ?_
      · cbv
        exact ⟨⟨.mk rfl, .mk rfl, trivial⟩, .mk (upto_zero 15 _), .mk (upto_zero 15 _), trivial⟩
      · intro i R hi hR
        have i0 := ofN_nonneg i
        cbv
        refine Br.mk (fun hc => ?_) (fun hc => ?_)
        · have hi2 : i < 15 := by have := lt_t.1 hc; simp only [ofN] at this; omega
          cbv
          refine Chk.mk (i0) ?_
          cbv
          refine Chk.mk (ofN_in hi2) ?_
          cbv
          refine Chk.mk (ofN_len hi2 (arrOf_length _ _)) ?_
          cbv
          refine Chk.mk (inR64 (by rw [aop_add]; simp only [ofN]; omega)) ?_
          cbv
          refine .mk (hR (i + 1) _ hi2 (by omega) ?_)
          cbv
          refine ⟨⟨.mk rfl, .mk (ofN_succ i).symm, trivial⟩, .mk rfl, .mk ?_, trivial⟩
          refine upto_put hi2 (bitU w) _ ?_
          rfl
        · have hi2 : i = 15 := by have := lt_f.1 hc; simp only [ofN] at this; omega
          subst hi2
          cbv
          refine .mk ?_
          cbv
          refine Chk.mk (arrOf_length _ _) ?_
          cbv
          refine Chk.mk (arrOf_length _ _) ?_
          cbv
          refine Chk.mk (arrOf_length _ _) ?_
          cbv
          refine Chk.mk (arrOf_length _ _) ?_
          cbv
          exact .mk _ _ h2 ⟨trivial, .mk (upto_full 15 _)⟩ trivial
    · exact hc.elim
  · exact hc.elim
/-- what 'count' has after some places -/
def countTo (lw lp : List (List D)) : Nat → Int
  | 0 => 0
  | i + 1 => opOf 61 (opOf 70 (countTo lw lp i) (at1 lw i)) (opOf 62 2 (at1 lp i))
theorem countTo_range (lw lp : List (List D)) (i : Nat) : 0 ≤ countTo lw lp i ∧ countTo lw lp i < 31 := by
  cases i with
  | zero => simp [countTo]
  | succ i => exact opOf_range _ _ _
def cCount : Con := fun args h K => match args with
  | [a, b] => match h with
    | [] => asRows [.int .u8] 15 a fun lw => asRows [.int .u8] 15 b fun lp => Chk (fun _ => bytes15 (lw ()) (lp ())) fun _ => K (.int .i64 (.t fun _ => countTo (lw ()) (lp ()) 15)) []
    | _ => False
  | _ => False
theorem count_keeps {la lb : List (List D)} (l1 : la.length = 15) (l2 : lb.length = 15) (h1 : bytes15 la lb) {K : AV → Heap → Prop} (h2 : K (.int .i64 (.t fun _ => countTo la lb 15)) []) :
    eFunc tab (env [(61, cRes 61), (62, cRes 62), (70, cRes 70), (71, cOf)]) (Tryd.f69.body.getD .skip) Tryd.f69.ntmps Tryd.f69.results.toList [.arr [.int .u8] fun _ => la, .arr [.int .u8] fun _ => lb] [] (Ret K) := by
  cbv
  refine Chk.mk (l1) ?_
  cbv
  refine Chk.mk (l2) ?_
  cbv
  refine Chk.mk (l1) ?_
  cbv
  refine loop_inv [3, 5, 8, 9] (fun (i : Nat) => i ≤ 15) (fun i => ⟨[.undef, .undef, .undef, .ptr 0 (.l 0) (.l 0), .undef, .int .i64 (.t fun _ => countTo la lb i), .undef, .undef, .arr [.int .u8] fun _ => la, .int .i64 (.t fun _ => ofN i), .undef, .undef, .undef, .undef, .undef, .undef, .undef, .undef, .undef, .undef, .undef, .undef, .undef, .undef, .undef], [some ⟨true, .rows [.int .u8] fun _ => lb⟩]⟩) (fun i => 15 - i) 0 (Nat.zero_le _) ?_ ?_
  · cbv
    exact ⟨⟨.mk rfl, .mk rfl, .mk rfl, trivial⟩, .mk rfl, trivial⟩
  · intro i R hi hR
    have i0 := ofN_nonneg i
    have hr := countTo_range la lb i
    cbv
    refine Br.mk (fun hc => ?_) (fun hc => ?_)
    · have hi2 : i < 15 := by have := lt_t.1 hc; simp only [ofN] at this; omega
      have eb1 := h1 i hi2
      unfold byte at eb1
      have ea : IntKind.i64.wrap (at1 la i) = at1 la i := wrap64 (by omega)
      have eb : IntKind.i64.wrap (at1 lb i) = at1 lb i := wrap64 (by omega)
      cbv
      refine Chk.mk (ofN_in hi2) ?_
      cbv
      refine Chk.mk (l1) ?_
      cbv
      refine Chk.mk (ofN_in hi2) ?_
      cbv
      refine Chk.mk (ofN_len hi2 l2) ?_
      cbv
      refine Chk.mk ?_ ?_
      · show -1000 ≤ countTo la lb i ∧ countTo la lb i ≤ 1000 ∧ -1000 ≤ IntKind.i64.wrap (at1 la (ofN i).toNat) ∧ IntKind.i64.wrap (at1 la (ofN i).toNat) ≤ 1000
        rw [toNat_ofN, ea]
        omega
      cbv
      refine Chk.mk ?_ ?_
      · show -1000 ≤ (2 : Int) ∧ (2 : Int) ≤ 1000 ∧ -1000 ≤ IntKind.i64.wrap (at1 lb (ofN i).toNat) ∧ IntKind.i64.wrap (at1 lb (ofN i).toNat) ≤ 1000
        rw [toNat_ofN, eb]
        omega
      cbv
      refine Chk.mk ?_ ?_
      · have r1 := opOf_range 70 (countTo la lb i) (IntKind.i64.wrap (at1 la (ofN i).toNat))
        have r2 := opOf_range 62 2 (IntKind.i64.wrap (at1 lb (ofN i).toNat))
        show -1000 ≤ opOf 70 (countTo la lb i) (IntKind.i64.wrap (at1 la (ofN i).toNat)) ∧ opOf 70 (countTo la lb i) (IntKind.i64.wrap (at1 la (ofN i).toNat)) ≤ 1000 ∧ -1000 ≤ opOf 62 2 (IntKind.i64.wrap (at1 lb (ofN i).toNat)) ∧ opOf 62 2 (IntKind.i64.wrap (at1 lb (ofN i).toNat)) ≤ 1000
        omega
      cbv
      refine Chk.mk (inR64 (by rw [aop_add]; simp only [ofN]; omega)) ?_
      cbv
      refine .mk (hR (i + 1) _ hi2 (by omega) ?_)
      cbv
      refine ⟨⟨.mk ?_, .mk rfl, .mk (ofN_succ i).symm, trivial⟩, .mk rfl, trivial⟩
      show opOf 61 (opOf 70 (countTo la lb i) (IntKind.i64.wrap (at1 la (ofN i).toNat))) (opOf 62 2 (IntKind.i64.wrap (at1 lb (ofN i).toNat))) = _
      rw [toNat_ofN, ea, eb]
      rfl
    · have hi2 : i = 15 := by have := lt_f.1 hc; simp only [ofN] at this; omega
      subst hi2
      cbv
      refine .mk ?_
      cbv
      exact .mk _ _ h2 ⟨trivial, .mk rfl⟩ trivial
theorem s69 : Sound Tryd.prog 69 cCount := by
  refine k69.kept tabOk e2 mixed o69 fun args h K hc => ?_
  unfold cCount at hc
  split at hc
  · rename_i a b
    split at hc
    · obtain ⟨lw, hc, l1, w1⟩ := asRows_arr (by decide) hc
      obtain ⟨lp, hc, l2, w2⟩ := asRows_arr (by decide) hc
      cases hc with
      | mk h1 h2 => exact ⟨_, [], Ent.cons w1 (Ent.cons w2 Ent.nil), trivial, count_keeps l1 l2 h1 h2⟩
    · exact hc.elim
  · exact hc.elim
end Go.Proofs.YtlgmbpnlakjefaaDoor
end
