/- Put together by a program of this work out of its texts KpQ, KpJ, Bl19. -/
import Derived.Test.YtlgmbpnlakjefaaDoorM19
section
/- Plain law: hidden templates and what is kept of them. -/
namespace Go.Proofs.YtlgmbpnlakjefaaDoor
open Go.Sy
set_option maxRecDepth 100000
set_option linter.unusedVariables false
set_option linter.unusedSectionVars false
theorem code_add {kd m : Nat} (hk : Kind3 kd) : codeN kd m = m * 2 ^ fN kd + restL kd (m * 2 ^ fN kd) := by
  unfold codeN
  rw [Nat.or_comm, or_add (restL_lt hk _), Nat.add_comm]
theorem code_top {kd m : Nat} (hk : Kind3 kd) : codeN kd m / 2 ^ fN kd = m := by
  rw [code_add hk, Nat.add_comm, Nat.add_mul_div_right _ _ (Nat.two_pow_pos _), Nat.div_eq_of_lt (restL_lt hk _), Nat.zero_add]
theorem code_rest {kd m : Nat} (hk : Kind3 kd) : restL kd (codeN kd m) = 0 := by
  have e : codeN kd m = (m * 2 ^ fN kd) ^^^ restL kd (m * 2 ^ fN kd) := by
    apply Nat.eq_of_testBit_eq
    intro i
    unfold codeN
    rw [Nat.testBit_or, Nat.testBit_xor]
    by_cases h : i < fN kd
    · have : (m * 2 ^ fN kd).testBit i = false := by rw [Nat.testBit_mul_two_pow]; simp; omega
      rw [this]; simp
    · have : (restL kd (m * 2 ^ fN kd)).testBit i = false := Nat.testBit_lt_two_pow (Nat.lt_of_lt_of_le (restL_lt hk _) (Nat.pow_le_pow_right (by decide) (by omega)))
      rw [this]; simp
  rw [e, restL_xor, restL_low hk (restL_lt hk _), Nat.xor_self]
theorem xor3 (a b : Nat) : a ^^^ (a ^^^ b) = b := by rw [← Nat.xor_assoc, Nat.xor_self, Nat.zero_xor]
theorem pop_16 {w : Nat} (h : w < 32768) : popN w 16 = popN w 15 := popN_high (i := 15) h 16 (by decide)
/-- one word: hidden a, hidden b, by their difference -/
theorem word_near {kd a b : Nat} (hk : Kind3 kd) (ha : a < 32768) (hb : b < 32768) (h : popN (b ^^^ a) 15 ≤ tN kd) : errN kd (restL kd b ^^^ restL kd a) = some (b ^^^ a) := by
  rw [← restL_xor]
  exact err_near hk (Nat.xor_lt_two_pow (n := 15) hb ha) h
theorem word_far {kd a b x : Nat} (h : ¬ popN (b ^^^ a) 15 ≤ tN kd) (he : errN kd (restL kd b ^^^ restL kd a) = some x) : b ^^^ x ≠ a := by
  rw [← restL_xor] at he
  intro e
  exact (err_far h he).1 (by rw [← e, xor3])
theorem mess_rest {kd a b m : Nat} (hk : Kind3 kd) : restL kd (b ^^^ (a ^^^ codeN kd m)) = restL kd b ^^^ restL kd a := by
  rw [restL_xor, restL_xor, code_rest hk, Nat.xor_zero]
theorem mess_near {kd a b m : Nat} (hk : Kind3 kd) (ha : a < 32768) (hb : b < 32768) (h : popN (b ^^^ a) 15 ≤ tN kd) : decN kd (b ^^^ (a ^^^ codeN kd m)) = m := by
  unfold decN
  rw [mess_rest hk, word_near hk ha hb h]
  show ((b ^^^ (a ^^^ codeN kd m)) ^^^ (b ^^^ a)) / 2 ^ fN kd = m
  have e : (b ^^^ (a ^^^ codeN kd m)) ^^^ (b ^^^ a) = codeN kd m := by
    apply Nat.eq_of_testBit_eq
    intro i
    simp only [Nat.testBit_xor]
    cases b.testBit i <;> cases a.testBit i <;> cases (codeN kd m).testBit i <;> rfl
  rw [e, code_top hk]
theorem top_one {kd w : Nat} (hk : Kind3 kd) (hw : w < 32768) (hr : restL kd w = 0) : w = codeN kd (w / 2 ^ fN kd) := by
  have h2 : 0 < 2 ^ fN kd := Nat.two_pow_pos _
  have e : w = (w / 2 ^ fN kd * 2 ^ fN kd) ^^^ (w % 2 ^ fN kd) := by
    apply Nat.eq_of_testBit_eq
    intro i
    rw [Nat.testBit_xor, Nat.testBit_mul_two_pow, Nat.testBit_mod_two_pow, Nat.testBit_div_two_pow]
    by_cases h : i < fN kd
    · simp [h, Nat.not_le.2 h]
    · simp [h, Nat.not_lt.1 h]
  have hlow : w % 2 ^ fN kd = restL kd (w / 2 ^ fN kd * 2 ^ fN kd) := by
    have h3 : restL kd w = restL kd (w / 2 ^ fN kd * 2 ^ fN kd) ^^^ (w % 2 ^ fN kd) := by
      conv => lhs; rw [e]
      rw [restL_xor, restL_low hk (Nat.mod_lt _ h2)]
    rw [hr] at h3
    have h4 := congrArg (· ^^^ (w % 2 ^ fN kd)) h3
    simp only [Nat.zero_xor, Nat.xor_assoc, Nat.xor_self, Nat.xor_zero] at h4
    exact h4
  rw [code_add hk, ← hlow]
  have := Nat.div_add_mod w (2 ^ fN kd)
  rw [Nat.mul_comm]; omega
theorem mess_far {kd a b m x : Nat} (hk : Kind3 kd) (ha : a < 32768) (hb : b < 32768) (hm : m < 2 ^ kdN kd) (h : ¬ popN (b ^^^ a) 15 ≤ tN kd) (he : errN kd (restL kd b ^^^ restL kd a) = some x) : decN kd (b ^^^ (a ^^^ codeN kd m)) ≠ m := by
  have hx : x < 32768 := err_lt he
  have hr : restL kd x = restL kd b ^^^ restL kd a := (find_sound (tN kd) 0 0 x (by decide) (by decide) he).1
  unfold decN
  rw [mess_rest hk, he]
  show ((b ^^^ (a ^^^ codeN kd m)) ^^^ x) / 2 ^ fN kd ≠ m
  intro e
  have hc := code15 hk hm
  have hw : (b ^^^ (a ^^^ codeN kd m)) ^^^ x < 32768 := Nat.xor_lt_two_pow (n := 15) (Nat.xor_lt_two_pow (n := 15) hb (Nat.xor_lt_two_pow (n := 15) ha hc)) hx
  have hz : restL kd ((b ^^^ (a ^^^ codeN kd m)) ^^^ x) = 0 := by rw [restL_xor, mess_rest hk, hr, Nat.xor_self]
  have h1 := top_one hk hw hz
  rw [e] at h1
  refine word_far h he ?_
  have h2 : ∀ i, ((b ^^^ (a ^^^ codeN kd m)) ^^^ x).testBit i = (codeN kd m).testBit i := fun i => by rw [h1]
  apply Nat.eq_of_testBit_eq
  intro i
  have := h2 i
  simp only [Nat.testBit_xor] at this ⊢
  cases hb2 : b.testBit i <;> cases ha2 : a.testBit i <;> cases hc2 : (codeN kd m).testBit i <;> cases hx2 : x.testBit i <;> simp_all
/-! ### lists -/
def nearN (kd : Nat) (a b : Nat → Nat) (i : Nat) : Prop := popN (b i ^^^ a i) 15 ≤ tN kd
section
variable {kd n : Nat} {A B M : List Nat} (hk : Kind3 kd) (hA : A.length = n) (hB : B.length = n) (hM : M.length = n) (bA : Below A 32768) (bB : Below B 32768) (bM : Below M (2 ^ kdN kd))
def farI (A B : List Nat) (i : Nat) : Nat := popN (B.getD i 0 ^^^ A.getD i 0) 15
def skL (kd : Nat) (A : List Nat) : List Nat := listF A.length (SkX.f ⟨kd, A⟩)
def comL (kd : Nat) (A M : List Nat) : List Nat := listF A.length (ComX.f ⟨kd, A, M, true⟩)
include hk hA hB bA bB
theorem rec_s {i : Nat} (hi : i < n) : RecX.s ⟨kd, skL kd A, B⟩ i = restL kd (B.getD i 0) ^^^ restL kd (A.getD i 0) := by
  unfold RecX.s skL
  rw [listF_get (by omega)]; rfl
theorem rec_near {i : Nat} (hi : i < n) (h : farI A B i ≤ tN kd) : RecX.near ⟨kd, skL kd A, B⟩ i = true ∧ RecX.e ⟨kd, skL kd A, B⟩ i = B.getD i 0 ^^^ A.getD i 0 ∧ RecX.out ⟨kd, skL kd A, B⟩ i = A.getD i 0 := by
  have e := word_near hk (bA i (by omega)) (bB i (by omega)) h
  have es := rec_s hk hA hB bA bB hi
  have h1 : RecX.e ⟨kd, skL kd A, B⟩ i = B.getD i 0 ^^^ A.getD i 0 := by unfold RecX.e; rw [es]; show optV (errN kd _) = _; rw [e]; rfl
  refine ⟨by unfold RecX.near; rw [es]; show optB (errN kd _) = _; rw [e]; rfl, h1, ?_⟩
  unfold RecX.out
  rw [h1]
  exact xor3 _ _
theorem rec_far {i : Nat} (hi : i < n) (h : ¬ farI A B i ≤ tN kd) (hn : RecX.near ⟨kd, skL kd A, B⟩ i = true) : RecX.out ⟨kd, skL kd A, B⟩ i ≠ A.getD i 0 := by
  have es := rec_s hk hA hB bA bB hi
  unfold RecX.near at hn
  rw [es] at hn
  have hn : optB (errN kd (restL kd (B.getD i 0) ^^^ restL kd (A.getD i 0))) = true := hn
  cases he : errN kd (restL kd (B.getD i 0) ^^^ restL kd (A.getD i 0)) with
  | none => rw [he] at hn; cases hn
  | some x =>
    have h1 : RecX.e ⟨kd, skL kd A, B⟩ i = x := by unfold RecX.e; rw [es]; show optV (errN kd _) = _; rw [he]; rfl
    unfold RecX.out
    rw [h1]
    exact word_far h he
def farSum (A B : List Nat) : Nat → Nat
  | 0 => 0
  | i + 1 => farSum A B i + farI A B i
theorem rec_sum (h : ∀ i, i < n → farI A B i ≤ tN kd) : ∀ i, i ≤ n → RecX.sum ⟨kd, skL kd A, B⟩ i = farSum A B i
  | 0, _ => rfl
  | i + 1, hi => by
    have := (rec_near hk hA hB bA bB (i := i) (by omega) (h i (by omega))).2.1
    simp only [RecX.sum, farSum]
    rw [rec_sum h i (by omega), this, pop_16 (Nat.xor_lt_two_pow (n := 15) (bB i (by omega)) (bA i (by omega)))]
    rfl
include hM bM
theorem op_w {tag : Int} {i : Nat} (hi : i < n) : OpX.w ⟨kd, comL kd A M, tag, B⟩ i = B.getD i 0 ^^^ (A.getD i 0 ^^^ codeN kd (M.getD i 0)) := by
  unfold OpX.w comL
  rw [listF_get (by omega)]; rfl
theorem op_near {tag : Int} {i : Nat} (hi : i < n) (h : farI A B i ≤ tN kd) : OpX.near ⟨kd, comL kd A M, tag, B⟩ i = true ∧ OpX.out ⟨kd, comL kd A M, tag, B⟩ i = M.getD i 0 := by
  have e := word_near hk (bA i (by omega)) (bB i (by omega)) h
  have ew := op_w hk hA hB hM bA bB bM (tag := tag) hi
  refine ⟨?_, ?_⟩
  · unfold OpX.near
    rw [ew]
    show optB (errN kd (restL kd _)) = true
    rw [mess_rest hk, e]; rfl
  · unfold OpX.out
    rw [ew]
    exact mess_near hk (bA i (by omega)) (bB i (by omega)) h
theorem op_far {tag : Int} {i : Nat} (hi : i < n) (h : ¬ farI A B i ≤ tN kd) (hn : OpX.near ⟨kd, comL kd A M, tag, B⟩ i = true) : OpX.out ⟨kd, comL kd A M, tag, B⟩ i ≠ M.getD i 0 := by
  have ew := op_w hk hA hB hM bA bB bM (tag := tag) hi
  unfold OpX.near at hn
  rw [ew] at hn
  have hn : optB (errN kd (restL kd (B.getD i 0 ^^^ (A.getD i 0 ^^^ codeN kd (M.getD i 0))))) = true := hn
  rw [mess_rest hk] at hn
  cases he : errN kd (restL kd (B.getD i 0) ^^^ restL kd (A.getD i 0)) with
  | none => rw [he] at hn; cases hn
  | some x =>
    unfold OpX.out
    rw [ew]
    exact mess_far hk (bA i (by omega)) (bB i (by omega)) (bM i (by omega)) h he
theorem op_all (h : ∀ i, i < n → farI A B i ≤ tN kd) : OpX.opens ⟨kd, comL kd A M, tagTo M n, B⟩ ∧ OpX.outL ⟨kd, comL kd A M, tagTo M n, B⟩ = M := by
  have e : OpX.outL ⟨kd, comL kd A M, tagTo M n, B⟩ = M := by
    have : OpX.outL ⟨kd, comL kd A M, tagTo M n, B⟩ = listF M.length (fun i => M.getD i 0) := by
      unfold OpX.outL listF
      rw [hM, hB]
      exact List.map_congr_left fun i hi => (op_near hk hA hB hM bA bB bM (List.mem_range.1 hi) (h i (List.mem_range.1 hi))).2
    rw [this, listF_id]
  refine ⟨⟨fun i hi => (op_near hk hA hB hM bA bB bM (i := i) (by rw [← hB]; exact hi) (h i (by rw [← hB]; exact hi))).1, ?_⟩, e⟩
  rw [e]
  show tagTo M B.length = tagTo M n
  rw [hB]
theorem rec_all (h : ∀ i, i < n → farI A B i ≤ tN kd) : (∀ i, i < B.length → RecX.near ⟨kd, skL kd A, B⟩ i = true) ∧ listF B.length (RecX.out ⟨kd, skL kd A, B⟩) = A := by
  refine ⟨fun i hi => (rec_near hk hA hB bA bB (i := i) (by omega) (h i (by omega))).1, ?_⟩
  have : listF B.length (RecX.out ⟨kd, skL kd A, B⟩) = listF A.length (fun i => A.getD i 0) := by
    unfold listF
    rw [hA, hB]
    exact List.map_congr_left fun i hi => (rec_near hk hA hB bA bB (List.mem_range.1 hi) (h i (List.mem_range.1 hi))).2.2
  rw [this, listF_id]
end
end Go.Proofs.YtlgmbpnlakjefaaDoor
end

section
/- Contracts: the example of what is kept under a key. -/
namespace Go.Proofs.YtlgmbpnlakjefaaDoor
open Go.Sy
set_option maxRecDepth 100000
set_option maxHeartbeats 4000000
set_option linter.unusedSimpArgs false
set_option linter.unusedVariables false
theorem skipR {p q P Q : Prop} (h : ¬ p) (k : q → Q) : (q → Q) ∧ (p → P) := ⟨k, fun x => absurd x h⟩
theorem skipL {p q P Q : Prop} (h : ¬ p) (k : q → Q) : (p → P) ∧ (q → Q) := ⟨fun x => absurd x h, k⟩
def K0 : KeyX := ⟨15, 1, 9⟩
theorem K0_ok : K0.ok := by refine ⟨?_, ?_, ?_, ?_, ?_, ?_⟩ <;> decide
def hA : Nat := hideN K0 16
def hB : Nat := hideN K0 17
theorem hA_lt : hA < 32768 := hideN_lt K0_ok 16
theorem hB_lt : hB < 32768 := hideN_lt K0_ok 17
theorem hAB : popN (hB ^^^ hA) 15 = 1 := far_same K0_ok 17 16
theorem below1 {a b : Nat} (h : a < b) : Below [a] b := fun i hi => by
  have : i = 0 := by simpa using hi
  subst this; exact h
theorem far1 : ∀ i, i < 1 → farI [hA] [hB] i ≤ tN 1 := fun i hi => by
  have : i = 0 := by omega
  subst this
  show popN (hB ^^^ hA) 15 ≤ 1
  rw [hAB]; decide
theorem bA1 : Below [hA] 32768 := below1 hA_lt
theorem bB1 : Below [hB] 32768 := below1 hB_lt
theorem bM1 : Below [7] (2 ^ kdN 1) := below1 (by decide)
theorem k1 : Kind3 1 := .inl rfl
theorem rec1 : (∀ i, i < 1 → RecX.near ⟨1, skL 1 [hA], [hB]⟩ i = true) ∧ listF 1 (RecX.out ⟨1, skL 1 [hA], [hB]⟩) = [hA] := rec_all k1 (show [hA].length = 1 from rfl) (show [hB].length = 1 from rfl) (show [7].length = 1 from rfl) bA1 bB1 bM1 far1
theorem op1 : OpX.opens ⟨1, comL 1 [hA] [7], tagTo [7] 1, [hB]⟩ ∧ OpX.outL ⟨1, comL 1 [hA] [7], tagTo [7] 1, [hB]⟩ = [7] := op_all k1 (show [hA].length = 1 from rfl) (show [hB].length = 1 from rfl) (show [7].length = 1 from rfl) bA1 bB1 bM1 far1
theorem sum1 : RecX.sum ⟨1, skL 1 [hA], [hB]⟩ 1 = 1 := by
  rw [rec_sum k1 (show [hA].length = 1 from rfl) (show [hB].length = 1 from rfl) bA1 bB1 far1 1 (Nat.le_refl _)]
  show 0 + popN (hB ^^^ hA) 15 = 1
  rw [hAB]
theorem bS1 : Below (skL 1 [hA]) (2 ^ fN 1) := fun i hi => by
  have hi : i < 1 := hi
  have : i = 0 := by omega
  subst this
  exact restL_lt k1 _
theorem bC1 : Below (comL 1 [hA] [7]) 32768 := fun i hi => by
  have hi : i < 1 := hi
  have : i = 0 := by omega
  subst this
  exact Nat.xor_lt_two_pow (n := 15) hA_lt (code15 k1 (by decide))
theorem f18 : EnvOk Tryd.prog (env [(12, cHideL), (13, cSketch), (15, cRecover), (14, cCommit), (16, cOpen), (17, cSame)]) :=
  envOk_cons (envOk_cons (envOk_cons (envOk_cons (envOk_cons (envOk_cons envOk_nil s17 k17.callable) s16 k16.callable) s14 k14.callable) s15 k15.callable) s13 k13.callable) s12 k12.callable
def cAliveKept : Con := con (fun _ : Unit => []) (fun _ => []) (fun _ => True) (fun _ K => K (.bool (.t fun _ => true)) [])
attribute [local irreducible] restL errN codeN decN tagTo hideN hideI popN
theorem s5 : Sound Tryd.prog 5 cAliveKept := by
  refine k5.con tabOk f18 mixed o5 fun x K _ h2 => ?_
  have h16 : Below [16] 32768 := below1 (by decide)
  have h17 : Below [17] 32768 := below1 (by decide)
  have l1000 : (1 : Nat) ≤ 1000 := by decide
  have l14 : (1 : Nat) ≤ 4 := by decide
  have l11 : (1 : Nat) ≤ 1 := Nat.le_refl 1
  have kn : K0.n = 15 := rfl
  cbv
  obtain ⟨k0, hk0⟩ : ∃ k, k = K0 := ⟨_, rfl⟩
  have k0ok : k0.ok := by rw [hk0]; exact K0_ok
  have k0n : k0.n = 15 := by rw [hk0]; rfl
  obtain ⟨A, hAe⟩ : ∃ a, a = hA := ⟨_, rfl⟩
  obtain ⟨B, hBe⟩ : ∃ a, a = hB := ⟨_, rfl⟩
  obtain ⟨S, hS⟩ : ∃ S, S = skL 1 [hA] := ⟨_, rfl⟩
  obtain ⟨C, hC⟩ : ∃ S, S = comL 1 [hA] [7] := ⟨_, rfl⟩
  obtain ⟨tg, htg⟩ : ∃ S, S = tagTo [7] 1 := ⟨_, rfl⟩
  have bA : Below [A] 32768 := by rw [hAe]; exact bA1
  have bB : Below [B] 32768 := by rw [hBe]; exact bB1
  have bS : Below S (2 ^ fN 1) := by rw [hS]; exact bS1
  have bC : Below C 32768 := by rw [hC]; exact bC1
  have lS : S.length = 1 := by rw [hS]; rfl
  have lC : C.length = 1 := by rw [hC]; rfl
  have hr := rec1
  have ho := op1
  have hs := sum1
  rw [← hAe, ← hBe] at hr ho hs
  rw [← hAe] at hS hC
  rw [← hS] at hr hs
  rw [← hC, ← htg] at ho
  have eA : listF 1 (HideX.f ⟨k0, [16], true⟩) = [A] := by rw [hAe, hk0]; rfl
  have eB : listF 1 (HideX.f ⟨k0, [17], true⟩) = [B] := by rw [hBe, hk0]; rfl
  have eS : listF 1 (SkX.f ⟨1, [A]⟩) = S := by rw [hS]; rfl
  have eC : listF 1 (ComX.f ⟨1, [A], [7], true⟩) = C := by rw [hC]; rfl
  have ek : k0.perm = 1 ∧ k0.pad = 9 := by rw [hk0]; exact ⟨rfl, rfl⟩
  have hno : ¬ ∃ i, i < 1 ∧ RecX.near ⟨1, S, [B]⟩ i = false := fun ⟨i, hi, hn⟩ => by
    have := hr.1 i hi
    rw [hn] at this
    cases this
  have hno2 : ¬ ¬ OpX.opens ⟨1, C, tg, [B]⟩ := not_not_intro ho.1
  have q1 : (15 : Int) = ofN k0.n := by rw [k0n]; rfl
  have q2 : (1 : Int) = k0.perm := ek.1.symm
  have q3 : (9 : Int) = k0.pad := ek.2.symm
  have lSl : S.length ≤ 1 := by rw [lS]; exact Nat.le_refl 1
  have lCl : C.length ≤ 1 := by rw [lC]; exact Nat.le_refl 1
  refine ⟨⟨k0, [16], true⟩, ⟨k0ok, k0n, l1000, h16⟩, Ent.of_wvs ?_, ?_, ?_⟩
  · cbv
    repeat' first | apply And.intro | exact trivial | exact SameI.mk (by with_reducible rfl) | exact SameN.mk (by with_reducible rfl) | exact SameL.mk (by with_reducible rfl) | exact SameB.mk (by with_reducible rfl) | exact LeN.mk (by with_reducible exact Nat.le_refl _) | apply SameI.mk | apply SameN.mk | apply SameL.mk | apply SameB.mk | apply LeN.mk
    all_goals first | rfl | exact (ofN_succ _).symm | (simp only [toNat_ofN, NX.v, IX.v, Nat.le_refl]; done) | ((try simp only [toNat_ofN, NX.v, IX.v, nadd, nsub]); omega) | skip
    all_goals first | exact q1 | exact q2 | exact q3 | exact Nat.le_refl 1 | exact lS.symm | exact lC.symm | exact lSl | exact lCl | exact congrArg nums eA | exact congrArg nums eB | exact congrArg nums eS | exact congrArg nums eC | exact htg.symm | rfl
  · cbv
    repeat' first | apply And.intro | exact trivial | exact SameI.mk (by with_reducible rfl) | exact SameN.mk (by with_reducible rfl) | exact SameL.mk (by with_reducible rfl) | exact SameB.mk (by with_reducible rfl) | exact LeN.mk (by with_reducible exact Nat.le_refl _) | apply SameI.mk | apply SameN.mk | apply SameL.mk | apply SameB.mk | apply LeN.mk
    all_goals first | rfl | exact (ofN_succ _).symm | (simp only [toNat_ofN, NX.v, IX.v, Nat.le_refl]; done) | ((try simp only [toNat_ofN, NX.v, IX.v, nadd, nsub]); omega) | skip
    all_goals first | exact q1 | exact q2 | exact q3 | exact Nat.le_refl 1 | exact lS.symm | exact lC.symm | exact lSl | exact lCl | exact congrArg nums eA | exact congrArg nums eB | exact congrArg nums eS | exact congrArg nums eC | exact htg.symm | rfl
  cbv
  refine ⟨⟨k0, [17], true⟩, ⟨k0ok, k0n, l1000, h17⟩, Ent.of_wvs ?_, ?_, ?_⟩
  · cbv
    repeat' first | apply And.intro | exact trivial | exact SameI.mk (by with_reducible rfl) | exact SameN.mk (by with_reducible rfl) | exact SameL.mk (by with_reducible rfl) | exact SameB.mk (by with_reducible rfl) | exact LeN.mk (by with_reducible exact Nat.le_refl _) | apply SameI.mk | apply SameN.mk | apply SameL.mk | apply SameB.mk | apply LeN.mk
    all_goals first | rfl | exact (ofN_succ _).symm | (simp only [toNat_ofN, NX.v, IX.v, Nat.le_refl]; done) | ((try simp only [toNat_ofN, NX.v, IX.v, nadd, nsub]); omega) | skip
    all_goals first | exact q1 | exact q2 | exact q3 | exact Nat.le_refl 1 | exact lS.symm | exact lC.symm | exact lSl | exact lCl | exact congrArg nums eA | exact congrArg nums eB | exact congrArg nums eS | exact congrArg nums eC | exact htg.symm | rfl
  · cbv
    repeat' first | apply And.intro | exact trivial | exact SameI.mk (by with_reducible rfl) | exact SameN.mk (by with_reducible rfl) | exact SameL.mk (by with_reducible rfl) | exact SameB.mk (by with_reducible rfl) | exact LeN.mk (by with_reducible exact Nat.le_refl _) | apply SameI.mk | apply SameN.mk | apply SameL.mk | apply SameB.mk | apply LeN.mk
    all_goals first | rfl | exact (ofN_succ _).symm | (simp only [toNat_ofN, NX.v, IX.v, Nat.le_refl]; done) | ((try simp only [toNat_ofN, NX.v, IX.v, nadd, nsub]); omega) | skip
    all_goals first | exact q1 | exact q2 | exact q3 | exact Nat.le_refl 1 | exact lS.symm | exact lC.symm | exact lSl | exact lCl | exact congrArg nums eA | exact congrArg nums eB | exact congrArg nums eS | exact congrArg nums eC | exact htg.symm | rfl
  cbv
  refine ⟨⟨1, [A]⟩, ⟨k1, l11, l14, bA⟩, Ent.of_wvs ?_, ?_, ?_⟩
  · cbv
    repeat' first | apply And.intro | exact trivial | exact SameI.mk (by with_reducible rfl) | exact SameN.mk (by with_reducible rfl) | exact SameL.mk (by with_reducible rfl) | exact SameB.mk (by with_reducible rfl) | exact LeN.mk (by with_reducible exact Nat.le_refl _) | apply SameI.mk | apply SameN.mk | apply SameL.mk | apply SameB.mk | apply LeN.mk
    all_goals first | rfl | exact (ofN_succ _).symm | (simp only [toNat_ofN, NX.v, IX.v, Nat.le_refl]; done) | ((try simp only [toNat_ofN, NX.v, IX.v, nadd, nsub]); omega) | skip
    all_goals first | exact q1 | exact q2 | exact q3 | exact Nat.le_refl 1 | exact lS.symm | exact lC.symm | exact lSl | exact lCl | exact congrArg nums eA | exact congrArg nums eB | exact congrArg nums eS | exact congrArg nums eC | exact htg.symm | rfl
  · cbv
    repeat' first | apply And.intro | exact trivial | exact SameI.mk (by with_reducible rfl) | exact SameN.mk (by with_reducible rfl) | exact SameL.mk (by with_reducible rfl) | exact SameB.mk (by with_reducible rfl) | exact LeN.mk (by with_reducible exact Nat.le_refl _) | apply SameI.mk | apply SameN.mk | apply SameL.mk | apply SameB.mk | apply LeN.mk
    all_goals first | rfl | exact (ofN_succ _).symm | (simp only [toNat_ofN, NX.v, IX.v, Nat.le_refl]; done) | ((try simp only [toNat_ofN, NX.v, IX.v, nadd, nsub]); omega) | skip
    all_goals first | exact q1 | exact q2 | exact q3 | exact Nat.le_refl 1 | exact lS.symm | exact lC.symm | exact lSl | exact lCl | exact congrArg nums eA | exact congrArg nums eB | exact congrArg nums eS | exact congrArg nums eC | exact htg.symm | rfl
  cbv
  refine ⟨⟨1, S, [B]⟩, ⟨k1, l11, l14, lS, bB, bS⟩, Ent.of_wvs ?_, ?_, ?_⟩
  · cbv
    repeat' first | apply And.intro | exact trivial | exact SameI.mk (by with_reducible rfl) | exact SameN.mk (by with_reducible rfl) | exact SameL.mk (by with_reducible rfl) | exact SameB.mk (by with_reducible rfl) | exact LeN.mk (by with_reducible exact Nat.le_refl _) | apply SameI.mk | apply SameN.mk | apply SameL.mk | apply SameB.mk | apply LeN.mk
    all_goals first | rfl | exact (ofN_succ _).symm | (simp only [toNat_ofN, NX.v, IX.v, Nat.le_refl]; done) | ((try simp only [toNat_ofN, NX.v, IX.v, nadd, nsub]); omega) | skip
    all_goals first | exact q1 | exact q2 | exact q3 | exact Nat.le_refl 1 | exact lS.symm | exact lC.symm | exact lSl | exact lCl | exact congrArg nums eA | exact congrArg nums eB | exact congrArg nums eS | exact congrArg nums eC | exact htg.symm | rfl
  · cbv
    repeat' first | apply And.intro | exact trivial | exact SameI.mk (by with_reducible rfl) | exact SameN.mk (by with_reducible rfl) | exact SameL.mk (by with_reducible rfl) | exact SameB.mk (by with_reducible rfl) | exact LeN.mk (by with_reducible exact Nat.le_refl _) | apply SameI.mk | apply SameN.mk | apply SameL.mk | apply SameB.mk | apply LeN.mk
    all_goals first | rfl | exact (ofN_succ _).symm | (simp only [toNat_ofN, NX.v, IX.v, Nat.le_refl]; done) | ((try simp only [toNat_ofN, NX.v, IX.v, nadd, nsub]); omega) | skip
    all_goals first | exact q1 | exact q2 | exact q3 | exact Nat.le_refl 1 | exact lS.symm | exact lC.symm | exact lSl | exact lCl | exact congrArg nums eA | exact congrArg nums eB | exact congrArg nums eS | exact congrArg nums eC | exact htg.symm | rfl
  cbv
  refine skipR hno ?_
  intro _
  cbv
  refine ⟨⟨1, [A], [7], true⟩, ⟨k1, l11, l14, rfl, bA, bM1⟩, Ent.of_wvs ?_, ?_, ?_⟩
  · cbv
    repeat' first | apply And.intro | exact trivial | exact SameI.mk (by with_reducible rfl) | exact SameN.mk (by with_reducible rfl) | exact SameL.mk (by with_reducible rfl) | exact SameB.mk (by with_reducible rfl) | exact LeN.mk (by with_reducible exact Nat.le_refl _) | apply SameI.mk | apply SameN.mk | apply SameL.mk | apply SameB.mk | apply LeN.mk
    all_goals first | rfl | exact (ofN_succ _).symm | (simp only [toNat_ofN, NX.v, IX.v, Nat.le_refl]; done) | ((try simp only [toNat_ofN, NX.v, IX.v, nadd, nsub]); omega) | skip
    all_goals first | exact q1 | exact q2 | exact q3 | exact Nat.le_refl 1 | exact lS.symm | exact lC.symm | exact lSl | exact lCl | exact congrArg nums eA | exact congrArg nums eB | exact congrArg nums eS | exact congrArg nums eC | exact htg.symm | exact congrArg nums hr.2 | exact congrArg nums ho.2 | rfl
  · cbv
    repeat' first | apply And.intro | exact trivial | exact SameI.mk (by with_reducible rfl) | exact SameN.mk (by with_reducible rfl) | exact SameL.mk (by with_reducible rfl) | exact SameB.mk (by with_reducible rfl) | exact LeN.mk (by with_reducible exact Nat.le_refl _) | apply SameI.mk | apply SameN.mk | apply SameL.mk | apply SameB.mk | apply LeN.mk
    all_goals first | rfl | exact (ofN_succ _).symm | (simp only [toNat_ofN, NX.v, IX.v, Nat.le_refl]; done) | ((try simp only [toNat_ofN, NX.v, IX.v, nadd, nsub]); omega) | skip
    all_goals first | exact q1 | exact q2 | exact q3 | exact Nat.le_refl 1 | exact lS.symm | exact lC.symm | exact lSl | exact lCl | exact congrArg nums eA | exact congrArg nums eB | exact congrArg nums eS | exact congrArg nums eC | exact htg.symm | exact congrArg nums hr.2 | exact congrArg nums ho.2 | rfl
  cbv
  refine ⟨⟨1, C, tg, [B]⟩, ⟨k1, l11, l14, lC, bB, bC⟩, Ent.of_wvs ?_, ?_, ?_⟩
  · cbv
    repeat' first | apply And.intro | exact trivial | exact SameI.mk (by with_reducible rfl) | exact SameN.mk (by with_reducible rfl) | exact SameL.mk (by with_reducible rfl) | exact SameB.mk (by with_reducible rfl) | exact LeN.mk (by with_reducible exact Nat.le_refl _) | apply SameI.mk | apply SameN.mk | apply SameL.mk | apply SameB.mk | apply LeN.mk
    all_goals first | rfl | exact (ofN_succ _).symm | (simp only [toNat_ofN, NX.v, IX.v, Nat.le_refl]; done) | ((try simp only [toNat_ofN, NX.v, IX.v, nadd, nsub]); omega) | skip
    all_goals first | exact q1 | exact q2 | exact q3 | exact Nat.le_refl 1 | exact lS.symm | exact lC.symm | exact lSl | exact lCl | exact congrArg nums eA | exact congrArg nums eB | exact congrArg nums eS | exact congrArg nums eC | exact htg.symm | exact congrArg nums hr.2 | exact congrArg nums ho.2 | rfl
  · cbv
    repeat' first | apply And.intro | exact trivial | exact SameI.mk (by with_reducible rfl) | exact SameN.mk (by with_reducible rfl) | exact SameL.mk (by with_reducible rfl) | exact SameB.mk (by with_reducible rfl) | exact LeN.mk (by with_reducible exact Nat.le_refl _) | apply SameI.mk | apply SameN.mk | apply SameL.mk | apply SameB.mk | apply LeN.mk
    all_goals first | rfl | exact (ofN_succ _).symm | (simp only [toNat_ofN, NX.v, IX.v, Nat.le_refl]; done) | ((try simp only [toNat_ofN, NX.v, IX.v, nadd, nsub]); omega) | skip
    all_goals first | exact q1 | exact q2 | exact q3 | exact Nat.le_refl 1 | exact lS.symm | exact lC.symm | exact lSl | exact lCl | exact congrArg nums eA | exact congrArg nums eB | exact congrArg nums eS | exact congrArg nums eC | exact htg.symm | exact congrArg nums hr.2 | exact congrArg nums ho.2 | rfl
  cbv
  refine skipR hno2 ?_
  intro _
  cbv
  refine Br.t (fun c => ?_) (fun c => ?_)
  rotate_left
  · exact eq_f.1 c (congrArg ofN hs)
  cbv
  refine ⟨⟨[A], [A], true⟩, ⟨rfl, l1000⟩, Ent.of_wvs ?_, ?_, ?_⟩
  · cbv
    repeat' first | apply And.intro | exact trivial | exact SameI.mk (by with_reducible rfl) | exact SameN.mk (by with_reducible rfl) | exact SameL.mk (by with_reducible rfl) | exact SameB.mk (by with_reducible rfl) | exact LeN.mk (by with_reducible exact Nat.le_refl _) | apply SameI.mk | apply SameN.mk | apply SameL.mk | apply SameB.mk | apply LeN.mk
    all_goals first | rfl | exact (ofN_succ _).symm | (simp only [toNat_ofN, NX.v, IX.v, Nat.le_refl]; done) | ((try simp only [toNat_ofN, NX.v, IX.v, nadd, nsub]); omega) | skip
    all_goals first | exact q1 | exact q2 | exact q3 | exact Nat.le_refl 1 | exact lS.symm | exact lC.symm | exact lSl | exact lCl | exact congrArg nums eA | exact congrArg nums eB | exact congrArg nums eS | exact congrArg nums eC | exact htg.symm | exact congrArg nums hr.2 | exact congrArg nums ho.2 | rfl
  · cbv
    repeat' first | apply And.intro | exact trivial | exact SameI.mk (by with_reducible rfl) | exact SameN.mk (by with_reducible rfl) | exact SameL.mk (by with_reducible rfl) | exact SameB.mk (by with_reducible rfl) | exact LeN.mk (by with_reducible exact Nat.le_refl _) | apply SameI.mk | apply SameN.mk | apply SameL.mk | apply SameB.mk | apply LeN.mk
    all_goals first | rfl | exact (ofN_succ _).symm | (simp only [toNat_ofN, NX.v, IX.v, Nat.le_refl]; done) | ((try simp only [toNat_ofN, NX.v, IX.v, nadd, nsub]); omega) | skip
    all_goals first | exact q1 | exact q2 | exact q3 | exact Nat.le_refl 1 | exact lS.symm | exact lC.symm | exact lSl | exact lCl | exact congrArg nums eA | exact congrArg nums eB | exact congrArg nums eS | exact congrArg nums eC | exact htg.symm | exact congrArg nums hr.2 | exact congrArg nums ho.2 | rfl
  intro q hq
  have hq1 : q = true := hq.2 fun _ _ => rfl
  subst hq1
  cbv
  refine Br.t (fun c => ?_) (fun c => ?_)
  rotate_left
  · cases c
  cbv
  refine ⟨⟨[7], [7], true⟩, ⟨rfl, l1000⟩, Ent.of_wvs ?_, ?_, ?_⟩
  · cbv
    repeat' first | apply And.intro | exact trivial | exact SameI.mk (by with_reducible rfl) | exact SameN.mk (by with_reducible rfl) | exact SameL.mk (by with_reducible rfl) | exact SameB.mk (by with_reducible rfl) | exact LeN.mk (by with_reducible exact Nat.le_refl _) | apply SameI.mk | apply SameN.mk | apply SameL.mk | apply SameB.mk | apply LeN.mk
    all_goals first | rfl | exact (ofN_succ _).symm | (simp only [toNat_ofN, NX.v, IX.v, Nat.le_refl]; done) | ((try simp only [toNat_ofN, NX.v, IX.v, nadd, nsub]); omega) | skip
    all_goals first | exact q1 | exact q2 | exact q3 | exact Nat.le_refl 1 | exact lS.symm | exact lC.symm | exact lSl | exact lCl | exact congrArg nums eA | exact congrArg nums eB | exact congrArg nums eS | exact congrArg nums eC | exact htg.symm | exact congrArg nums hr.2 | exact congrArg nums ho.2 | rfl
  · cbv
    repeat' first | apply And.intro | exact trivial | exact SameI.mk (by with_reducible rfl) | exact SameN.mk (by with_reducible rfl) | exact SameL.mk (by with_reducible rfl) | exact SameB.mk (by with_reducible rfl) | exact LeN.mk (by with_reducible exact Nat.le_refl _) | apply SameI.mk | apply SameN.mk | apply SameL.mk | apply SameB.mk | apply LeN.mk
    all_goals first | rfl | exact (ofN_succ _).symm | (simp only [toNat_ofN, NX.v, IX.v, Nat.le_refl]; done) | ((try simp only [toNat_ofN, NX.v, IX.v, nadd, nsub]); omega) | skip
    all_goals first | exact q1 | exact q2 | exact q3 | exact Nat.le_refl 1 | exact lS.symm | exact lC.symm | exact lSl | exact lCl | exact congrArg nums eA | exact congrArg nums eB | exact congrArg nums eS | exact congrArg nums eC | exact htg.symm | exact congrArg nums hr.2 | exact congrArg nums ho.2 | rfl
  intro q hq
  have hq1 : q = true := hq.2 fun _ _ => rfl
  subst hq1
  cbv
  refine .mk _ _ h2 ?_ ?_
  all_goals cbv
  all_goals repeat' first | apply And.intro | exact trivial | exact SameI.mk (by with_reducible rfl) | exact SameN.mk (by with_reducible rfl) | exact SameL.mk (by with_reducible rfl) | exact SameB.mk (by with_reducible rfl) | exact LeN.mk (by with_reducible exact Nat.le_refl _) | apply SameI.mk | apply SameN.mk | apply SameL.mk | apply SameB.mk | apply LeN.mk
  all_goals first | rfl | exact (ofN_succ _).symm | (simp only [toNat_ofN, NX.v, IX.v, Nat.le_refl]; done) | ((try simp only [toNat_ofN, NX.v, IX.v, nadd, nsub]); omega) | skip
end Go.Proofs.YtlgmbpnlakjefaaDoor
end

section
/- Contracts: the law TopBlind itself. -/
namespace Go.Proofs.YtlgmbpnlakjefaaDoor
open Go.Sy
set_option maxRecDepth 100000
set_option maxHeartbeats 2000000
set_option linter.unusedSimpArgs false
set_option linter.unusedVariables false
structure RawK where
  n : Int
  perm : Int
  pad : Int
def RawK.row (k : RawK) : List D := [.i k.n, .i k.perm, .i k.pad]
def keyRows (f : Nat → RawK) : List (List D) := (List.range 4).map fun i => (f i).row
theorem keyRows_length (f : Nat → RawK) : (keyRows f).length = 4 := by simp [keyRows]
theorem keyRows_get (f : Nat → RawK) {i : Nat} (hi : i < 4) : (keyRows f).getD i [] = (f i).row := by simp [keyRows, List.getD_eq_getElem?_getD, hi]
structure BlindX where
  a : Nat
  b : Nat
  old : Nat → RawK
  young : Nat → RawK
  d : DealX
def BlindX.got (x : BlindX) : Prop := x.a < 18446744073709551616 ∧ x.b < 18446744073709551616 ∧ (∀ i, 0 ≤ (x.old i).pad ∧ (x.old i).pad ≤ 65535) ∧ (∀ i, 0 ≤ (x.young i).pad ∧ (x.young i).pad ≤ 65535) ∧ x.d.got
def BlindX.args (x : BlindX) : List AV := [.int .u64 (.t fun _ => ofN x.a), .int .u64 (.t fun _ => ofN x.b), .arr [.int .i64, .int .i64, .int .u16] fun _ => keyRows x.old, .arr [.int .i64, .int .i64, .int .u16] fun _ => keyRows x.young, .agg x.d.cells]
/-- the k-th word of 15 bits -/
def chunk (w k : Nat) : Nat := w / 2 ^ (k * 15) % 32768
theorem chunk_lt (w k : Nat) : chunk w k < 32768 := Nat.mod_lt _ (by decide)
def sumTo (a b : Nat) : Nat → Nat
  | 0 => 0
  | k + 1 => sumTo a b k + popN (chunk a k ^^^ chunk b k) 15
theorem sumTo_le (a b : Nat) : ∀ k, sumTo a b k ≤ 15 * k
  | 0 => Nat.le_refl _
  | k + 1 => by
    have h1 := sumTo_le a b k
    have h2 := popN_le (chunk a k ^^^ chunk b k) 15
    simp only [sumTo]; omega
theorem sumTo_pop (a b : Nat) : ∀ k, sumTo a b k = popN (a ^^^ b) (15 * k)
  | 0 => rfl
  | k + 1 => by
    simp only [sumTo]
    rw [sumTo_pop a b k, show 15 * (k + 1) = 15 * k + 15 by omega, popN_split]
    congr 1
    have e : chunk a k ^^^ chunk b k = ((a ^^^ b) / 2 ^ (15 * k)) % 2 ^ 15 := by
      apply Nat.eq_of_testBit_eq
      intro i
      unfold chunk
      rw [show (32768 : Nat) = 2 ^ 15 from rfl, Nat.mul_comm k 15]
      simp only [Nat.testBit_xor, Nat.testBit_mod_two_pow, Nat.testBit_div_two_pow]
      by_cases h : i < 15 <;> simp [h]
    rw [e, popN_mod _ _ _ (Nat.le_refl _)]
theorem valid_key {n perm pad : Int} (h : validB n perm pad = true) (hn : n = 15) (hp : 0 ≤ pad) : KeyX.ok ⟨15, perm, pad⟩ := by
  subst hn
  unfold validB at h
  simp only [Bool.and_eq_true, decide_eq_true_eq] at h
  obtain ⟨⟨⟨⟨h1, h2⟩, h3⟩, h4⟩, h5⟩ := h
  refine ⟨show 1 ≤ 15 by decide, show 15 ≤ 15 by decide, h3, ?_, hp, h5⟩
  rw [ofN_of h3] at h4
  exact ofN_lt.1 h4
theorem chunk_eq {a i : Nat} (ha : a < 18446744073709551616) (hi : i < 4) : IntKind.u16.wrap (aop (.bits .and .u64) (aop (.shr .u64) (ofN a) (aop .mul (ofN i) 15)) 32767) = ofN (chunk a i) := by
  have e : aop .mul (ofN i) 15 = ofN (i * 15) := by rw [aop_mul]; simp only [ofN]; omega
  have h1 : a / 2 ^ (i * 15) < 18446744073709551616 := Nat.lt_of_le_of_lt (Nat.div_le_self _ _) ha
  rw [e, shr64 (by omega), show (32767 : Int) = ofN 32767 from rfl, and64 h1 (by decide), show (32767 : Nat) = 2 ^ 15 - 1 from rfl, Nat.and_two_pow_sub_one_eq_mod, cut16]
  unfold chunk
  rw [show (2 : Nat) ^ 15 = 32768 from rfl, Nat.mod_eq_of_lt (by omega)]
def cBlind : Con := con BlindX.args (fun _ => []) BlindX.got (fun _ K => K (.bool (.t fun _ => true)) [])
theorem pop_whole (x y : Nat) : popN (((x &&& whole) ^^^ (y &&& whole)) &&& whole) 64 = popN (x ^^^ y) 60 := by
  have e : ((x &&& whole) ^^^ (y &&& whole)) &&& whole = (x ^^^ y) % 2 ^ 60 := by
    rw [show whole = 2 ^ 60 - 1 from rfl, Nat.and_two_pow_sub_one_eq_mod, Nat.and_two_pow_sub_one_eq_mod, Nat.and_two_pow_sub_one_eq_mod]
    apply Nat.eq_of_testBit_eq
    intro i
    simp only [Nat.testBit_mod_two_pow, Nat.testBit_xor]
    by_cases h : i < 60 <;> simp [h]
  rw [e, show (64 : Nat) = 60 + 4 from rfl, popN_split, popN_mod _ _ _ (Nat.le_refl 60), Nat.div_eq_of_lt (Nat.mod_lt _ (by decide))]
  rfl
theorem ones_whole : ones (ofN whole) = 60 := by
  rw [ones_eq whole_lt]; rfl
theorem num_sum {a b : Nat} : ones (aop (.bits .and .u64) (aop (.bits .xor .u64) (ofN (a &&& whole)) (ofN (b &&& whole))) (ofN whole)) = ofN (sumTo a b 4) := by
  have w := whole_lt
  have h1 : a &&& whole ≤ whole := Nat.and_le_right
  have h2 : b &&& whole ≤ whole := Nat.and_le_right
  have h3 : (a &&& whole) ^^^ (b &&& whole) < 2 ^ 64 := Nat.xor_lt_two_pow (by omega) (by omega)
  rw [xor64 (by omega) (by omega), and64 h3 w, ones_eq (Nat.lt_of_le_of_lt Nat.and_le_right w), pop_whole, sumTo_pop]
attribute [local irreducible] hideI popN ones aop whole
end Go.Proofs.YtlgmbpnlakjefaaDoor
end
