/- Contracts: the least limit for which a talk says that two words match. -/
import Derived.Test.YtlgmbpnlakjefaaBl14
namespace Go.Proofs.Ytlgmbpnlakjefaa
open Go.Sy
set_option maxRecDepth 100000
set_option maxHeartbeats 2000000
set_option linter.unusedSimpArgs false
set_option linter.unusedVariables false
theorem e20 : EnvOk Try.prog (env [(36, cParties), (37, cPlay)]) := envOk_cons (envOk_cons envOk_nil s37 k37.callable) s36 k36.callable
structure LeastX where
  d : DealX
  x : Int
  y : Int
  k : Nat
def LeastX.ok (z : LeastX) : Prop := z.d.wf ∧ dealB z.d = true ∧ z.d.one.wf ∧ partyB z.d.one = true ∧ z.x < 32768 ∧ z.y < 32768 ∧ z.k ≤ 15 ∧
  ∀ i : Nat, i ≤ 15 → (z.d.snd (ofN i)).wf ∧ partyB (z.d.snd (ofN i)) = true ∧ tkM z.d.one (z.d.snd (ofN i)) z.x z.y = decide (z.k ≤ i)
def cLeast : Con := con (fun z : LeastX => [.agg z.d.cells, .int .u16 (.t fun _ => z.x), .int .u16 (.t fun _ => z.y)]) (fun _ => []) LeastX.ok (fun z K => K (.tuple [.int .i64 (.t fun _ => ofN z.k), .bool (.t fun _ => true)]) [])
def far (k i : Nat) : Int := match decide (k < i) with | true => ofN k | false => -1
theorem s10 : Sound Try.prog 10 cLeast := by
  refine k10.con tabOk e20 mixed o10 fun z K hl h2 => ?_
  obtain ⟨⟨a, b, u, rc, rs, t⟩, x, y, k⟩ := z
  have hd := hl.1
  have hd2 := hl.2.1
  have ho := hl.2.2.1
  have ho2 := hl.2.2.2.1
  have hx := hl.2.2.2.2.1
  have hy := hl.2.2.2.2.2.1
  have hk : k ≤ 15 := hl.2.2.2.2.2.2.1
  have hm := hl.2.2.2.2.2.2.2
  cbv
  refine loop_inv [1, 2, 3, 8, 15] (fun (i : Nat) => i ≤ 16) (fun i => ⟨[.undef, .int .u16 (.t fun _ => x), .int .u16 (.t fun _ => y), .ptr 0 (.l 0) (.l 0), .undef, .undef, .undef, .undef, .int .i64 (.t fun _ => far k i), .undef, .undef, .undef, .undef, .undef, .undef, .int .i64 (.t fun _ => ofN i), .undef, .undef, .undef, .undef, .undef, .undef, .undef, .undef, .undef, .undef, .undef, .undef, .undef, .undef, .undef, .undef, .undef, .undef, .undef, .undef, .undef, .undef, .undef, .undef, .undef, .undef, .undef, .undef, .undef, .undef, .undef, .undef, .undef, .undef, .undef, .undef, .undef, .undef, .undef, .undef, .undef, .undef, .undef], [some ⟨true, .cells (DealX.cells ⟨a, b, u, rc, rs, t⟩)⟩]⟩) (fun i => 16 - i) 0 (Nat.zero_le _) ?_ ?_
  · cbv
    repeat' first | apply And.intro | exact trivial | exact SameI.mk (by with_reducible rfl) | exact SameN.mk (by with_reducible rfl) | exact SameL.mk (by with_reducible rfl) | exact SameB.mk (by with_reducible rfl) | exact LeN.mk (by with_reducible exact Nat.le_refl _) | apply SameI.mk | apply SameN.mk | apply SameL.mk | apply SameB.mk | apply LeN.mk
    all_goals first | rfl | exact (ofN_succ _).symm | (simp only [toNat_ofN, NX.v, IX.v, Nat.le_refl]; done) | ((try simp only [toNat_ofN, NX.v, IX.v, nadd, nsub]); omega) | skip
  · intro i R hi hR
    have i0 := ofN_nonneg i
    cbv
    refine Br.mk (fun hc => ?_) (fun hc => ?_)
    · have hi2 : i < 16 := by have : ofN i < 16 := lt_t.1 hc; simp only [ofN] at this; omega
      obtain ⟨m1, m2, m3⟩ := hm i (by omega)
      cbv
      refine ⟨(⟨a, b, u, rc, rs, t⟩, ofN i), ⟨hd, hd2, i0, by simp only [ofN]; omega⟩, Ent.of_wvs ?_, trivial, ?_⟩
      · cbv
        repeat' first | apply And.intro | exact trivial | exact SameI.mk (by with_reducible rfl) | exact SameN.mk (by with_reducible rfl) | exact SameL.mk (by with_reducible rfl) | exact SameB.mk (by with_reducible rfl) | exact LeN.mk (by with_reducible exact Nat.le_refl _) | apply SameI.mk | apply SameN.mk | apply SameL.mk | apply SameB.mk | apply LeN.mk
        all_goals first | rfl | exact (ofN_succ _).symm | (simp only [toNat_ofN, NX.v, IX.v, Nat.le_refl]; done) | ((try simp only [toNat_ofN, NX.v, IX.v, nadd, nsub]); omega) | skip
      cbv
      refine ⟨(DealX.one ⟨a, b, u, rc, rs, t⟩, DealX.snd ⟨a, b, u, rc, rs, t⟩ (ofN i), x, y), ⟨ho, m1, ho2, m2, hx, hy⟩, Ent.of_wvs ?_, trivial, ?_⟩
      · cbv
        repeat' first | apply And.intro | exact trivial | exact SameI.mk (by with_reducible rfl) | exact SameN.mk (by with_reducible rfl) | exact SameL.mk (by with_reducible rfl) | exact SameB.mk (by with_reducible rfl) | exact LeN.mk (by with_reducible exact Nat.le_refl _) | apply SameI.mk | apply SameN.mk | apply SameL.mk | apply SameB.mk | apply LeN.mk
        all_goals first | rfl | exact (ofN_succ _).symm | (simp only [toNat_ofN, NX.v, IX.v, Nat.le_refl]; done) | ((try simp only [toNat_ofN, NX.v, IX.v, nadd, nsub]); omega) | skip
      cbv
      refine Br.mk (fun b1 => ?_) (fun b1 => ?_)
      · have b1 : ¬ k ≤ i := of_decide_eq_false (m3.symm.trans (bnot_t.1 b1))
        have hf : far k i = -1 := by unfold far; rw [decide_eq_false (by omega : ¬ k < i)]
        have hf2 : far k (i + 1) = -1 := by unfold far; rw [decide_eq_false (by omega : ¬ k < i + 1)]
        cbv
        refine Br.f (fun b2 => ?_) (fun b2 => ?_)
        · have h : 0 ≤ far k i := ge_t.1 b2
          rw [hf] at h; omega
        cbv
        refine Br.f (fun b3 => ?_) (fun b3 => ?_)
        · exact b1 (of_decide_eq_true (m3.symm.trans b3))
        cbv
        refine Chk.mk (inR64 (by rw [aop_add]; simp only [ofN]; omega)) ?_
        cbv
        refine .mk (hR (i + 1) _ hi2 (by omega) ?_)
        cbv
        repeat' first | apply And.intro | exact trivial | exact SameI.mk (by with_reducible rfl) | exact SameN.mk (by with_reducible rfl) | exact SameL.mk (by with_reducible rfl) | exact SameB.mk (by with_reducible rfl) | exact LeN.mk (by with_reducible exact Nat.le_refl _) | apply SameI.mk | apply SameN.mk | apply SameL.mk | apply SameB.mk | apply LeN.mk
        all_goals first | rfl | exact (ofN_succ _).symm | (simp only [toNat_ofN, NX.v, IX.v, Nat.le_refl]; done) | ((try simp only [toNat_ofN, NX.v, IX.v, nadd, nsub]); omega) | skip
        all_goals (show far k i = far k (i + 1); rw [hf, hf2])
      · have b1 : k ≤ i := of_decide_eq_true (m3.symm.trans (bnot_f.1 b1))
        cbv
        refine Br.t (fun b3 => ?_) (fun b3 => ?_)
        · cbv
          refine Br.mk (fun b2 => ?_) (fun b2 => ?_)
          · have h : far k i < 0 := lt_t.1 b2
            have hki : k = i := by
              unfold far at h
              by_cases e : k < i
              · rw [decide_eq_true e] at h; simp only [ofN] at h; omega
              · omega
            have hf2 : far k (i + 1) = ofN i := by unfold far; rw [decide_eq_true (by omega : k < i + 1), hki]
            cbv
            refine Chk.mk (inR64 (by rw [aop_add]; simp only [ofN]; omega)) ?_
            cbv
            refine .mk (hR (i + 1) _ hi2 (by omega) ?_)
            cbv
            repeat' first | apply And.intro | exact trivial | exact SameI.mk (by with_reducible rfl) | exact SameN.mk (by with_reducible rfl) | exact SameL.mk (by with_reducible rfl) | exact SameB.mk (by with_reducible rfl) | exact LeN.mk (by with_reducible exact Nat.le_refl _) | apply SameI.mk | apply SameN.mk | apply SameL.mk | apply SameB.mk | apply LeN.mk
            all_goals first | rfl | exact (ofN_succ _).symm | (simp only [toNat_ofN, NX.v, IX.v, Nat.le_refl]; done) | ((try simp only [toNat_ofN, NX.v, IX.v, nadd, nsub]); omega) | skip
            all_goals (show ofN i = far k (i + 1); rw [hf2])
          · have h : ¬ far k i < 0 := lt_f.1 b2
            have hki : k < i := by
              unfold far at h
              by_cases e : k < i
              · exact e
              · rw [decide_eq_false e] at h; exact absurd (show (-1 : Int) < 0 by decide) h
            have hf2 : far k i = far k (i + 1) := by unfold far; rw [decide_eq_true hki, decide_eq_true (by omega : k < i + 1)]
            cbv
            refine Chk.mk (inR64 (by rw [aop_add]; simp only [ofN]; omega)) ?_
            cbv
            refine .mk (hR (i + 1) _ hi2 (by omega) ?_)
            cbv
            repeat' first | apply And.intro | exact trivial | exact SameI.mk (by with_reducible rfl) | exact SameN.mk (by with_reducible rfl) | exact SameL.mk (by with_reducible rfl) | exact SameB.mk (by with_reducible rfl) | exact LeN.mk (by with_reducible exact Nat.le_refl _) | apply SameI.mk | apply SameN.mk | apply SameL.mk | apply SameB.mk | apply LeN.mk
            all_goals first | rfl | exact (ofN_succ _).symm | (simp only [toNat_ofN, NX.v, IX.v, Nat.le_refl]; done) | ((try simp only [toNat_ofN, NX.v, IX.v, nadd, nsub]); omega) | skip
            all_goals (show far k i = far k (i + 1); exact hf2)
        · have h3 : ¬ k ≤ i := of_decide_eq_false (m3.symm.trans b3)
          omega
    · have hi2 : i = 16 := by have : ¬ ofN i < 16 := lt_f.1 hc; simp only [ofN] at this; omega
      subst hi2
      cbv
      refine .mk ?_
      cbv
      have hf : far k 16 = ofN k := by unfold far; rw [decide_eq_true (by omega : k < 16)]
      refine .mk _ _ h2 ?_ ?_
      all_goals cbv
      all_goals repeat' first | apply And.intro | exact trivial | exact SameI.mk (by with_reducible rfl) | exact SameN.mk (by with_reducible rfl) | exact SameL.mk (by with_reducible rfl) | exact SameB.mk (by with_reducible rfl) | exact LeN.mk (by with_reducible exact Nat.le_refl _) | apply SameI.mk | apply SameN.mk | apply SameL.mk | apply SameB.mk | apply LeN.mk
      all_goals first | rfl | exact (ofN_succ _).symm | (simp only [toNat_ofN, NX.v, IX.v, Nat.le_refl]; done) | ((try simp only [toNat_ofN, NX.v, IX.v, nadd, nsub]); omega) | skip
      show cop .ge (far k 16) 0 = true
      rw [hf]; exact ge_t.2 (ofN_nonneg k)
end Go.Proofs.Ytlgmbpnlakjefaa
