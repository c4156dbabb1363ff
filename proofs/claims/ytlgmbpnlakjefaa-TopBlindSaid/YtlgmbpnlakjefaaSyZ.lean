/- What a proof of a contract uses: loops by an invariant; where the evaluator comes to rest. -/
import Derived.Test.YtlgmbpnlakjefaaSyX
namespace Go.Sy
set_option linter.unusedSimpArgs false
set_option linter.unusedVariables false
set_option linter.unusedSectionVars false

theorem lt_t {x y : Int} : (cop .lt x y = true) ↔ x < y := by simp [cop]
theorem lt_f {x y : Int} : (cop .lt x y = false) ↔ ¬ x < y := by simp [cop]
theorem le_t {x y : Int} : (cop .le x y = true) ↔ x ≤ y := by simp [cop]
theorem le_f {x y : Int} : (cop .le x y = false) ↔ ¬ x ≤ y := by simp [cop]
theorem gt_t {x y : Int} : (cop .gt x y = true) ↔ y < x := by simp [cop]
theorem gt_f {x y : Int} : (cop .gt x y = false) ↔ ¬ y < x := by simp [cop]
theorem ge_t {x y : Int} : (cop .ge x y = true) ↔ y ≤ x := by simp [cop]
theorem ge_f {x y : Int} : (cop .ge x y = false) ↔ ¬ y ≤ x := by simp [cop]
theorem eq_t {x y : Int} : (cop .eq x y = true) ↔ x = y := by simp [cop]
theorem eq_f {x y : Int} : (cop .eq x y = false) ↔ ¬ x = y := by simp [cop]
theorem ne_t {x y : Int} : (cop .ne x y = true) ↔ ¬ x = y := by simp [cop]
theorem ne_f {x y : Int} : (cop .ne x y = false) ↔ x = y := by simp [cop]
theorem aop_add {x y : Int} : aop .add x y = x + y := rfl
theorem aop_sub {x y : Int} : aop .sub x y = x - y := rfl
theorem aop_mul {x y : Int} : aop .mul x y = x * y := rfl
theorem aop_quo {x y : Int} : aop .quo x y = x.tdiv y := rfl
theorem aop_rem {x y : Int} : aop .rem x y = x.tmod y := rfl
theorem ofN_nonneg (n : Nat) : 0 ≤ ofN n := Int.natCast_nonneg n
theorem ofN_succ (n : Nat) : ofN (n + 1) = ofN n + 1 := by simp [ofN]
theorem ofN_toNat {a : Int} (h : 0 ≤ a) : ofN a.toNat = a := by simp [ofN]; omega
theorem ofN_inj {m n : Nat} (h : ofN m = ofN n) : m = n := by simp only [ofN] at h; omega
theorem ofN_lt {m n : Nat} : ofN m < ofN n ↔ m < n := by simp only [ofN]; omega
theorem ofN_le {m n : Nat} : ofN m ≤ ofN n ↔ m ≤ n := by simp only [ofN]; omega
theorem ofN_eq (n : Nat) : ofN n = (n : Int) := rfl
theorem ofN_in {i n : Nat} (h : i < n) : 0 ≤ ofN i ∧ ofN i < ((NX.l n).v : Int) := by simp only [ofN, NX.v]; omega
theorem toNat_ofN (n : Nat) : (ofN n).toNat = n := by simp [ofN]
theorem ofN_len {i n : Nat} {f : Unit → Nat} (h : i < n) (hf : f () = n) : 0 ≤ ofN (ofN i).toNat ∧ ofN (ofN i).toNat < ((NX.t f).v : Int) := by rw [toNat_ofN]; simp only [ofN, NX.v, hf]; omega
theorem inR64 {n : Int} (h : -9223372036854775808 ≤ n ∧ n ≤ 9223372036854775807) : inR .i64 n = true := by
  simp [inR, IntKind.min, IntKind.max, IntKind.signed, IntKind.bits]; omega
/-- the function's end: the answer may be said in another way -/
inductive Ret (K : AV → Heap → Prop) (v : AV) (h : Heap) : Prop | mk (v' : AV) (h' : Heap) : K v' h' → wv v v' → whs h h' → Ret K v h
/-- behind a loop -/
inductive Out (Q : Ex → St → Prop) (ex : Ex) (st : St) : Prop | mk : Q ex st → Out Q ex st
def roundQ (R : St → Prop) (Q : Ex → St → Prop) : Ex → St → Prop
  | .normal, st => At R st
  | .exit i, st => Out Q (.exit i) st
  | .ret, st => Out Q .ret st
theorem iterQ_eq (R : St → Prop) (Q : Ex → St → Prop) : iterQ R Q = roundQ R Q := by
  funext ex st'
  cases ex with
  | normal => show R st' = At R st'; exact propext ⟨.mk, fun h => by cases h; assumption⟩
  | exit i => show Q (.exit i) st' = Out Q (.exit i) st'; exact propext ⟨.mk, fun h => by cases h; assumption⟩
  | ret => show Q .ret st' = Out Q .ret st'; exact propext ⟨.mk, fun h => by cases h; assumption⟩
/-- A loop by an invariant: states (as they are at a round's begin) that bear a number, which each round lowers. -/
theorem loop_inv {T : Tab} {G : Env} {k : Nat} {c : Code} {Q : Ex → St → Prop} {st : St} {α : Type} (keep : List Nat) (I : α → Prop) (S : α → St) (μ : α → Nat) (x : α) (hI : I x) (hs : gen keep k st (S x))
    (round : ∀ x (R : St → Prop), I x → (∀ y st, I y → μ y < μ x → gen keep k st (S y) → R st) → eCode T G k c (S x) (roundQ R Q)) : ∃ (n : Nat) (keep : List Nat), eIter (eCode T G k c) (gen keep k) Q n st := by
  refine ⟨μ x + 1, keep, ?_⟩
  suffices h : ∀ n x st, μ x ≤ n → I x → gen keep k st (S x) → eIter (eCode T G k c) (gen keep k) Q (n + 1) st from h _ x st (Nat.le_refl _) hI hs
  intro n
  induction n with
  | zero =>
    intro x st hn hI hs
    refine ⟨S x, hs, ?_⟩
    rw [iterQ_eq]
    exact round x _ hI fun y st' _ hy => by omega
  | succ n ih =>
    intro x st hn hI hs
    refine ⟨S x, hs, ?_⟩
    rw [iterQ_eq]
    exact round x _ hI fun y st' hIy hy hs' => ih y st' (by omega) hIy hs'
/-- what stands for whatever the arguments stand for -/
def Ent (l m : List AV) : Prop := ∀ (s : Sit) (vs : List Value), VRels s l vs → VRels s m vs
theorem Ent.nil : Ent [] [] := fun _ _ h => h
theorem Ent.cons {a b : AV} {l m : List AV} (h1 : ∀ (s : Sit) (v : Value), VRel s a v → VRel s b v) (h2 : Ent l m) : Ent (a :: l) (b :: m) := fun s vs h => by
  simp only [VRels] at h ⊢
  obtain ⟨v, r, rfl, e1, e2⟩ := h
  exact ⟨v, r, rfl, h1 s v e1, h2 s r e2⟩
theorem ent_wv {a b : AV} (h : wv a b) : ∀ (s : Sit) (v : Value), VRel s a v → VRel s b v := fun _ _ hr => wv_rel _ _ _ h hr
theorem ent_int (k : IntKind) (n : IX) : ∀ (s : Sit) (v : Value), VRel s (.int k n) v → VRel s (.int k (.t fun _ => n.v)) v := fun _ _ hr => by simp only [VRel] at hr ⊢; exact hr
theorem ent_bool (n : BX) : ∀ (s : Sit) (v : Value), VRel s (.bool n) v → VRel s (.bool (.t fun _ => n.v)) v := fun _ _ hr => by simp only [VRel] at hr ⊢; exact hr
theorem ent_sl (b : Nat) (i f : NX) (z : Nat) (n c : NX) (x : Bool) : ∀ (s : Sit) (v : Value), VRel s (.sl b i f z n c x) v → VRel s (.sl b (.t fun _ => i.v) f z (.t fun _ => n.v) (.t fun _ => n.v) false) v := fun _ _ hr => by
  simp only [VRel, NX.v] at hr ⊢
  obtain ⟨a, cap, e1, e2, e3, e4, e5, e6, e7⟩ := hr
  exact ⟨a, cap, e1, Nat.le_refl _, Nat.le_trans e2 e3, (fun h => by cases h), e5, e6, e7⟩
theorem sS_refl (a : List Kd) : sS a a := by
  unfold sS
  split
  · trivial
  · exact .mk rfl
theorem sB_refl (a : Bool) : sB a a := by cases a <;> exact trivial
theorem whs_rows (mt : Bool) (sig : List Kd) (l l' : Unit → List (List D)) (h : l () = l' ()) : whs [some ⟨mt, .rows sig l⟩] [some ⟨mt, .rows sig l'⟩] := ⟨⟨sB_refl mt, sS_refl sig, .mk h⟩, trivial⟩
theorem ent_refl (a : AV) : ∀ (s : Sit) (v : Value), VRel s a v → VRel s a v := fun _ _ h => h
theorem rowsOf_length (m : Nat) : ∀ (n : Nat) (cs : List AV), (rowsOf m n cs).length = n
  | 0, _ => rfl
  | n + 1, cs => by simp [rowsOf, rowsOf_length m n]
/-- an array's value, said as rows -/
theorem asRows_arr {sig : List Kd} {n : Nat} {v : AV} {K : (Unit → List (List D)) → Prop} (h0 : 0 < sig.length) (h : asRows sig n v K) : ∃ l, K l ∧ (l ()).length = n ∧ ∀ (s : Sit) (u : Value), VRel s v u → VRel s (.arr sig l) u := by
  unfold asRows at h
  split at h
  · rename_i cs
    split at h
    · rename_i hf
      refine ⟨_, h, rowsOf_length _ _ _, fun s u hr => ?_⟩
      simp only [VRel] at hr ⊢
      obtain ⟨a, rfl, hr⟩ := hr
      obtain ⟨h1, h2, h3⟩ := fits_rel n cs _ hf hr
      rw [len_eq]
      exact ⟨a, rfl, by rw [h2, ← h1]; simp, h0, by simpa using h3⟩
    · exact h.elim
  · split at h
    · rename_i hs
      obtain rfl := sigEq_eq hs
      cases h with
      | mk h1 h2 => exact ⟨_, h2, h1, fun s u hr => hr⟩
    · exact h.elim
  · exact h.elim

/-- a struct's value of numbers and truths, said by its row -/
theorem ent_row {sig : List Kd} {cs : List AV} (hf : fits sig 1 cs = true) : ∀ (s : Sit) (v : Value), VRel s (.agg cs) v → VRel s (.agg (cellsOf (fun _ => dsOf cs) sig 0)) v := fun s v hr => by
  simp only [VRel] at hr ⊢
  obtain ⟨a, rfl, hr⟩ := hr
  obtain ⟨h1, h2, h3⟩ := fits_rel 1 cs _ hf hr
  have hzl : cs.length = sig.length := by rw [← hr.length, h1]; simp
  have hrow : rowsOf sig.length 1 cs = [dsOf cs] := by
    simp only [rowsOf]
    rw [List.take_of_length_le (by omega)]
  rw [hrow] at h3
  exact ⟨a, rfl, row_rel h3 (i := 0) (by simp) (fun _ => [dsOf cs]) rfl (by simpa using h1) (fun j _ => by simp) 0 rfl⟩

/-! ### arrays of numbers, by a function of the place -/
def arrOf (n : Nat) (f : Nat → Int) : List (List D) := (List.range n).map fun i => [.i (f i)]
def at1 (l : List (List D)) (i : Nat) : Int := ((l.getD i []).getD 0 (.i 0)).int
def put1 (f : Nat → Int) (i : Nat) (x : Int) (j : Nat) : Int := if j = i then x else f j
theorem arrOf_length (n : Nat) (f : Nat → Int) : (arrOf n f).length = n := by simp [arrOf]
theorem arrOf_get {n : Nat} {f : Nat → Int} {i : Nat} (hi : i < n) : (arrOf n f).getD i [] = [.i (f i)] := by
  simp [arrOf, hi]
theorem at1_arrOf {n : Nat} {f : Nat → Int} {i : Nat} (hi : i < n) : at1 (arrOf n f) i = f i := by
  unfold at1; rw [arrOf_get hi]; rfl
theorem arrOf_congr {n : Nat} {f g : Nat → Int} (h : ∀ i, i < n → f i = g i) : arrOf n f = arrOf n g := by
  unfold arrOf
  exact List.map_congr_left fun i hi => by rw [h i (List.mem_range.1 hi)]
/-- an array's value of numbers, said by a function of the place -/
theorem asRows_ints {k : IntKind} {n : Nat} {v : AV} {K : (Unit → List (List D)) → Prop} (h : asRows [.int k] n v K) :
    ∃ l, K l ∧ (l ()).length = n ∧ ∀ (s : Sit) (u : Value), VRel s v u → VRel s (.arr [.int k] fun _ => arrOf n (at1 (l ()))) u := by
  obtain ⟨l, h1, h2, h3⟩ := asRows_arr (by simp) h
  refine ⟨l, h1, h2, fun s u hr => ?_⟩
  have := h3 s u hr
  simp only [VRel] at this ⊢
  obtain ⟨a, rfl, e1, e2, e3⟩ := this
  refine ⟨a, rfl, by rw [arrOf_length, e1, h2], e2, fun i r hi => ?_, fun i j r kk d hi hj hd => ?_⟩
  · have hlt := nth_some_lt hi
    rw [arrOf_length] at hlt
    simp [nth_eq, arrOf, hlt] at hi
    subst hi; rfl
  · have hlt := nth_some_lt hi
    rw [arrOf_length] at hlt
    simp [nth_eq, arrOf, hlt] at hi
    subst hi
    have hj0 := nth_some_lt hj
    have : j = 0 := by simpa using hj0
    subst this
    simp [nth] at hj hd
    subst hj; subst hd
    obtain ⟨q, hq⟩ := nth_of_lt (l := l ()) (i := i) (by omega)
    obtain ⟨d', hd'⟩ := nth_of_lt (l := q) (i := 0) (by rw [e3.1 i q hq]; simp)
    obtain ⟨w, hw, hr⟩ := e3.2 i 0 q (.int k) d' hq rfl hd'
    refine ⟨w, hw, ?_⟩
    cases hr with
    | int k m =>
      have : at1 (l ()) i = m := by
        rw [nth_eq] at hq hd'
        simp [at1, List.getD_eq_getElem?_getD, hq, hd', D.int]
      rw [this]
      exact .int k m
theorem arrOf_set {n : Nat} {f : Nat → Int} {i : Nat} (hi : i < n) (x : Int) : (arrOf n f).set i (((arrOf n f).getD i []).set 0 (.i x)) = arrOf n (put1 f i x) := by
  rw [arrOf_get hi]
  apply List.ext_getElem?
  intro j
  rw [List.getElem?_set]
  simp only [arrOf_length]
  by_cases hj : j < n
  · by_cases e : i = j
    · subst e
      simp [arrOf, put1, hi]
    · have e' : ¬ j = i := fun h => e h.symm
      simp [arrOf, put1, e, e', hj]
  · by_cases e : i = j
    · omega
    · simp [arrOf, e, hj]
theorem arrOf_zero (n : Nat) (f : Nat → Int) (h : ∀ i, i < n → f i = 0) : List.replicate n [D.i 0] = arrOf n f := by
  apply List.ext_getElem?
  intro j
  by_cases hj : j < n
  · simp [arrOf, hj, h j hj]
  · simp [arrOf, hj]
/-- A contract is kept: it is enough to show it of arguments that are said in another way. -/
theorem fnChk.kept {P : Program} {T : Tab} (hT : TabOk P T) {G : Env} (hG : EnvOk P G) (hm : P.follows .mixedOrders = true) {f : FuncId} {body : Code} {nt : Nat} {rs : List ResultVar} (h : fnChk P f body nt rs) (hok : codeOk body = true) {C : Con}
    (hC : ∀ args h K, C args h K → ∃ args' h', Ent args args' ∧ whs h h' ∧ eFunc T G body nt rs args' h' (Ret K)) : Sound P f C := by
  have hS := h.sound hT hG hm hok (C := fun args h K => eFunc T G body nt rs args h K) fun args h K hc => hc
  intro s h args vals K hh hv hc
  obtain ⟨args', h', w1, w2, he⟩ := hC args h K hc
  refine Calls.mono (hS s h' args' vals (Ret K) (wh_ok hh w2) (w1 s vals hv) he) ?_
  rintro e w' ⟨s', v, av, h', r1, r2, r3, r4, r5, r6, r7⟩
  cases r7 with
  | mk v' h2 w3 w1 w2 => exact ⟨s', v, v', h2, r1, r2, r3, r4, wh_ok r5 w2, wv_rel _ _ _ w1 r6, w3⟩
theorem Ent.of_wvs : ∀ {l m : List AV}, wvs l m → Ent l m
  | [], [], _ => Ent.nil
  | _ :: _, _ :: _, h => Ent.cons (ent_wv h.1) (Ent.of_wvs h.2)
  | [], _ :: _, h => h.elim
  | _ :: _, [], h => h.elim
/-- A contract said by what the arguments stand for. -/
def con {X : Type} (A : X → List AV) (H : X → Heap) (pre : X → Prop) (post : X → (AV → Heap → Prop) → Prop) : Con :=
  fun as h K => ∃ x, pre x ∧ Ent as (A x) ∧ whs h (H x) ∧ post x K
theorem fnChk.con {P : Program} {T : Tab} (hT : TabOk P T) {G : Env} (hG : EnvOk P G) (hm : P.follows .mixedOrders = true) {f : FuncId} {body : Code} {nt : Nat} {rs : List ResultVar} (h : fnChk P f body nt rs) (hok : codeOk body = true)
    {X : Type} {A : X → List AV} {H : X → Heap} {pre : X → Prop} {post : X → (AV → Heap → Prop) → Prop}
    (hC : ∀ x K, pre x → post x K → eFunc T G body nt rs (A x) (H x) (Ret K)) : Sound P f (Go.Sy.con A H pre post) :=
  h.kept hT hG hm hok fun _ _ K ⟨x, h1, h2, h3, h4⟩ => ⟨_, _, h2, h3, hC x K h1 h4⟩
/-- the same, where the code is cut -/
theorem fnChk.conS {P : Program} {T : Tab} (hT : TabOk P T) {G : Env} (hG : EnvOk P G) (hm : P.follows .mixedOrders = true) {f : FuncId} {body : Code} {nt : Nat} {rs : List ResultVar} (h : fnChk P f body nt rs)
    {X : Type} {A : X → List AV} {H : X → Heap} {pre : X → Prop} {post : X → (AV → Heap → Prop) → Prop}
    (hC : ∀ x K, pre x → post x K → SCode P (len (H x)) body ⟨A x ++ undefs (nt - len (A x)), H x⟩ (eRet T (len (H x)) rs (Ret K))) : Sound P f (Go.Sy.con A H pre post) := by
  have hS := h.soundS hT hG hm (C := fun as h K => ∃ x, pre x ∧ as = A x ∧ h = H x ∧ ∃ K', K = Ret K' ∧ post x K') (fun as h K ⟨x, h1, h2, h3, K', h4, h5⟩ => by
    subst h2; subst h3; subst h4
    exact hC x K' h1 h5)
  intro s h args vals K hh hv ⟨x, h1, h2, h3, h4⟩
  refine Calls.mono (hS s (H x) (A x) vals (Ret K) (wh_ok hh h3) (h2 s vals hv) ⟨x, h1, rfl, rfl, K, rfl, h4⟩) ?_
  rintro e w' ⟨s', v, av, h', r1, r2, r3, r4, r5, r6, r7⟩
  cases r7 with
  | mk v' h2 w3 w1 w2 => exact ⟨s', v, v', h2, r1, r2, r3, r4, wh_ok r5 w2, wv_rel _ _ _ w1 r6, w3⟩
/-- cells of one kind, by a function of the place -/
def cI (k : IntKind) (f : Nat → Int) : Nat → Nat → List AV
  | 0, _ => []
  | n + 1, j => .int k (.t fun _ => f j) :: cI k f n (j + 1)
def ints (l : List Int) : List (List D) := l.map fun a => [.i a]
theorem ints_length (l : List Int) : (ints l).length = l.length := by simp [ints]
theorem at1_ints (l : List Int) (i : Nat) : at1 (ints l) i = l.getD i 0 := by
  unfold at1 ints
  simp only [List.getD_eq_getElem?_getD, List.getElem?_map]
  cases l[i]? <;> rfl
theorem ints_drop (l : List Int) (n : Nat) : (ints l).drop n = ints (l.drop n) := by simp [ints, List.map_drop]
theorem ints_take (l : List Int) (n : Nat) : (ints l).take n = ints (l.take n) := by simp [ints, List.map_take]
theorem ints_append (l m : List Int) : ints l ++ ints m = ints (l ++ m) := by simp [ints]
theorem ints_one (a : Int) : [[D.i a]] = ints [a] := rfl
theorem ints_set (l : List Int) (i : Nat) (x : Int) (hi : i < l.length) : (ints l).set i (((ints l).getD i []).set 0 (.i x)) = ints (l.set i x) := by
  have : (ints l).getD i [] = [.i l[i]] := by simp [ints, hi]
  rw [this]
  simp [ints, List.map_set]
theorem ints_zero (n : Nat) : List.replicate n [D.i 0] = ints (List.replicate n 0) := by simp [ints]
theorem ints_arr (n : Nat) (f : Nat → Int) : arrOf n f = ints ((List.range n).map f) := by simp [arrOf, ints]
theorem at1_rows {n : Nat} : ∀ {cs : List AV} {i : Nat}, i < n → n ≤ cs.length → at1 (rowsOf 1 n cs) i = (dOf (cs.getD i .undef)).int := by
  induction n with
  | zero => intro cs i hi; omega
  | succ n ih =>
    intro cs i hi hn
    cases cs with
    | nil => simp at hn
    | cons a cs =>
      cases i with
      | zero => rfl
      | succ i =>
        have := ih (cs := cs) (i := i) (by omega) (by simp at hn; omega)
        simpa [at1, rowsOf] using this
theorem cI_length (k : IntKind) (f : Nat → Int) : ∀ n j, (cI k f n j).length = n
  | 0, _ => rfl
  | n + 1, j => by simp [cI, cI_length k f n]
theorem cI_get (k : IntKind) (f : Nat → Int) : ∀ n j i, i < n → (dOf ((cI k f n j).getD i .undef)).int = f (j + i)
  | 0, _, _, h => by omega
  | n + 1, j, 0, _ => rfl
  | n + 1, j, i + 1, h => by
    have := cI_get k f n (j + 1) i (by omega)
    simp only [cI, List.getD_cons_succ]
    rw [this]; congr 1; omega
theorem at1_cI {k : IntKind} {f : Nat → Int} {n i : Nat} (hi : i < n) : at1 (rowsOf 1 n (cI k f n 0)) i = f i := by
  rw [at1_rows hi (by rw [cI_length]; exact Nat.le_refl _), cI_get k f n 0 i hi]; simp
end Go.Sy
