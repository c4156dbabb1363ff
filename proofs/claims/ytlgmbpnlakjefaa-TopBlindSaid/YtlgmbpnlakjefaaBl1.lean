/- Contracts: factorials; numbers modulo 31. -/
import Derived.Test.YtlgmbpnlakjefaaBlK
namespace Go.Proofs.Ytlgmbpnlakjefaa
open Go.Sy
set_option maxRecDepth 10000
set_option linter.unusedSimpArgs false
set_option linter.unusedVariables false
def fact : Nat → Nat
  | 0 => 1
  | n + 1 => fact n * (n + 1)
def cFact : Con := fun args h K => match args with
  | [.int .i64 n] => match h with
    | [] => Chk (fun _ => 0 ≤ n.v ∧ n.v ≤ 20) fun _ => K (.int .i64 (.t fun _ => ofN (fact n.v.toNat))) []
    | _ => False
  | _ => False
theorem fact_le : ∀ n m, n ≤ m → fact n ≤ fact m := by
  intro n m h
  induction m with
  | zero => simp at h; subst h; exact Nat.le_refl _
  | succ m ih =>
    rcases Nat.lt_or_ge n (m + 1) with h1 | h1
    · have := ih (by omega)
      simp only [fact]
      exact Nat.le_trans this (Nat.le_mul_of_pos_right _ (by omega))
    · have : n = m + 1 := by omega
      subst this; exact Nat.le_refl _
theorem s101 : Sound Try.prog 101 cFact := by
  refine k101.kept tabOk envOk_nil mixed o101 fun args h K hc => ?_
  unfold cFact at hc
  split at hc
  · rename_i n
    split at hc
    · cases hc with
      | mk h1 h2 =>
        refine ⟨[.int .i64 (.t fun _ => n.v)], [], Ent.cons (ent_int _ _) Ent.nil, trivial, ?_⟩
        revert h1 h2
        generalize n.v = a
        intro h1 h2
        cbv
        refine loop_inv [3, 5, 6] (fun (i : Nat) => i ≤ a.toNat) (fun i => ⟨[.undef, .undef, .undef, .int .i64 (.t fun _ => ofN (fact i)), .undef, .int .i64 (.t fun _ => a), .int .i64 (.t fun _ => ofN i), .undef, .undef, .undef, .undef, .undef, .undef, .undef, .undef], []⟩) (fun i => a.toNat - i) 0 ?_ ?_ ?_
        · exact Nat.zero_le _
        · cbv
          exact ⟨⟨.mk rfl, .mk rfl, .mk rfl, trivial⟩, trivial⟩
        · intro i R hi hR
          have i0 := ofN_nonneg i
          cbv
          refine Br.mk (fun hb => ?_) (fun hb => ?_)
          · have hb := lt_t.1 hb
            have e2 : ofN (fact (i + 1)) = ofN (fact i) * (ofN i + 1) := by simp [ofN, fact]
            have f0 := ofN_nonneg (fact (i + 1))
            have hi2 : i + 1 ≤ a.toNat := by simp only [ofN] at hb; omega
            have hf : ofN (fact (i + 1)) ≤ 2432902008176640000 := by
              have h20 : fact 20 = 2432902008176640000 := by decide
              have h := fact_le (i + 1) 20 (by simp only [ofN] at hb; omega)
              rw [h20] at h
              simp only [ofN]; omega
            rw [e2] at f0 hf
            cbv
            refine Chk.mk (inR64 (by simp only [aop_add]; omega)) ?_
            cbv
            refine Chk.mk (inR64 (by simp only [aop_add, aop_mul]; omega)) ?_
            cbv
            refine Chk.mk (inR64 (by simp only [aop_add]; omega)) ?_
            cbv
            refine .mk (hR (i + 1) _ hi2 (by omega) ?_)
            cbv
            exact ⟨⟨.mk e2.symm, .mk rfl, .mk (ofN_succ i).symm, trivial⟩, trivial⟩
          · have hb := lt_f.1 hb
            cbv
            refine .mk ?_
            cbv
            refine .mk _ _ h2 ⟨trivial, .mk ?_⟩ trivial
            have : i = a.toNat := by simp only [ofN] at hb; omega
            rw [this]
    · exact hc.elim
  · exact hc.elim

/-! ### numbers modulo 31 -/
def m31 (n : Int) : Int := n % 31
theorem m31_of (n : Int) : (n.tmod 31 + 31).tmod 31 = m31 n := by
  unfold m31
  rw [Int.tmod_eq_emod_of_nonneg (a := n.tmod 31 + 31) (by have := Int.lt_tmod_of_pos n (show (0:Int) < 31 by decide); omega)]
  rw [Int.add_emod_right, Int.tmod_def]
  omega
theorem m31_range (n : Int) : 0 ≤ m31 n ∧ m31 n < 31 := by unfold m31; omega
def small (n : Int) : Prop := -4611686018427387904 ≤ n ∧ n ≤ 4611686018427387904
def cOf : Con := fun args h K => match args with
  | [.int .i64 n] => match h with
    | [] => Chk (fun _ => small n.v) fun _ => K (.int .i64 (.t fun _ => m31 n.v)) []
    | _ => False
  | _ => False
theorem s128 : Sound Try.prog 128 cOf := by
  refine k128.kept tabOk envOk_nil mixed o128 fun args h K hc => ?_
  unfold cOf at hc
  split at hc
  · rename_i n
    split at hc
    · cases hc with
      | mk h1 h2 =>
        refine ⟨_, [], Ent.cons (ent_int _ _) Ent.nil, trivial, ?_⟩
        revert h1 h2
        generalize n.v = a
        intro h1 h2
        cbv
        refine Chk.mk (inR64 ?_) ?_
        · rw [aop_add, aop_rem]
          have := Int.lt_tmod_of_pos a (show (0 : Int) < 31 by decide)
          have := Int.tmod_lt_of_pos a (show (0 : Int) < 31 by decide)
          omega
        · cbv
          exact .mk _ _ h2 ⟨trivial, .mk (m31_of a)⟩ trivial
    · exact hc.elim
  · exact hc.elim
def opOf (g : Nat) (x y : Int) : Int :=
  match g with
  | 104 => m31 (x - y)
  | 105 => m31 (x * y)
  | _ => m31 (x + y)
def byte (n : Int) : Prop := 0 ≤ n ∧ n ≤ 255
/-- minus (104), times (105), plus (113) -/
def cRes (g : Nat) : Con := fun args h K => match args with
  | [.int .i64 a, .int .i64 b] => match h with
    | [] => Chk (fun _ => -1000 ≤ a.v ∧ a.v ≤ 1000 ∧ -1000 ≤ b.v ∧ b.v ≤ 1000) fun _ => K (.int .i64 (.t fun _ => opOf g a.v b.v)) []
    | _ => False
  | _ => False
theorem e1 : EnvOk Try.prog (env [(128, cOf)]) := envOk_cons envOk_nil s128 k128.callable
theorem prod_small {a b : Int} (h : -1000 ≤ a ∧ a ≤ 1000 ∧ -1000 ≤ b ∧ b ≤ 1000) : -1000000 ≤ a * b ∧ a * b ≤ 1000000 := by
  obtain ⟨h1, h2, h3, h4⟩ := h
  have e1 : (1000 - a) * (1000 - b) ≥ 0 := Int.mul_nonneg (by omega) (by omega)
  have e2 : (1000 + a) * (1000 + b) ≥ 0 := Int.mul_nonneg (by omega) (by omega)
  have e3 : (1000 - a) * (1000 + b) ≥ 0 := Int.mul_nonneg (by omega) (by omega)
  have e4 : (1000 + a) * (1000 - b) ≥ 0 := Int.mul_nonneg (by omega) (by omega)
  simp only [Int.sub_mul, Int.mul_sub, Int.add_mul, Int.mul_add] at e1 e2 e3 e4
  omega
theorem s104 : Sound Try.prog 104 (cRes 104) := by
  refine k104.kept tabOk e1 mixed o104 fun args h K hc => ?_
  unfold cRes at hc
  split at hc
  · rename_i x y
    split at hc
    · cases hc with
      | mk h1 h2 =>
        refine ⟨_, [], Ent.cons (ent_int _ _) (Ent.cons (ent_int _ _) Ent.nil), trivial, ?_⟩
        revert h1 h2
        generalize x.v = a
        generalize y.v = b
        intro h1 h2
        cbv
        refine Chk.mk (inR64 (by rw [aop_sub]; omega)) ?_
        cbv
        refine Chk.mk (by simp only [IX.v, aop_sub, small]; omega) ?_
        cbv
        exact .mk _ _ h2 ⟨trivial, .mk rfl⟩ trivial
    · exact hc.elim
  · exact hc.elim
theorem s105 : Sound Try.prog 105 (cRes 105) := by
  refine k105.kept tabOk e1 mixed o105 fun args h K hc => ?_
  unfold cRes at hc
  split at hc
  · rename_i x y
    split at hc
    · cases hc with
      | mk h1 h2 =>
        refine ⟨_, [], Ent.cons (ent_int _ _) (Ent.cons (ent_int _ _) Ent.nil), trivial, ?_⟩
        revert h1 h2
        generalize x.v = a
        generalize y.v = b
        intro h1 h2
        have hp := prod_small h1
        cbv
        refine Chk.mk (inR64 (by rw [aop_mul]; omega)) ?_
        cbv
        refine Chk.mk (by simp only [IX.v, aop_mul, small]; omega) ?_
        cbv
        exact .mk _ _ h2 ⟨trivial, .mk rfl⟩ trivial
    · exact hc.elim
  · exact hc.elim
theorem s113 : Sound Try.prog 113 (cRes 113) := by
  refine k113.kept tabOk e1 mixed o113 fun args h K hc => ?_
  unfold cRes at hc
  split at hc
  · rename_i x y
    split at hc
    · cases hc with
      | mk h1 h2 =>
        refine ⟨_, [], Ent.cons (ent_int _ _) (Ent.cons (ent_int _ _) Ent.nil), trivial, ?_⟩
        revert h1 h2
        generalize x.v = a
        generalize y.v = b
        intro h1 h2
        cbv
        refine Chk.mk (inR64 (by rw [aop_add]; omega)) ?_
        cbv
        refine Chk.mk (by simp only [IX.v, aop_add, small]; omega) ?_
        cbv
        exact .mk _ _ h2 ⟨trivial, .mk rfl⟩ trivial
    · exact hc.elim
  · exact hc.elim
theorem e2 : EnvOk Try.prog (env [(104, cRes 104), (105, cRes 105), (113, cRes 113), (128, cOf)]) :=
  envOk_cons (envOk_cons (envOk_cons e1 s113 k113.callable) s105 k105.callable) s104 k104.callable
end Go.Proofs.Ytlgmbpnlakjefaa
