/- Put together by a program of this work out of its texts Bl14, Bl15, Bl16, Bl17, BlQ, BlR. -/
import Derived.Test.YtlgmbpnlakjefaaDoorM13
section
/- Contracts: keys renewed; talks played. -/
namespace Go.Proofs.YtlgmbpnlakjefaaDoor
open Go.Sy
set_option maxRecDepth 100000
set_option maxHeartbeats 1000000
set_option linter.unusedSimpArgs false
set_option linter.unusedVariables false
def invCells (k : KeyX) : List AV := [.int .i64 (.t fun _ => ofN k.n), .int .i64 (.t fun _ => ofN (numTo (invL k) k.n)), .int .u16 (.t fun _ => wordTo (pickL (bitsL k.n k.pad) (invL k)) k.n)]
def renPerm (a b : KeyX) : Int := ofN (numTo (pickL (ordI a.n (ofN (numTo (invL a) a.n))) (ordI a.n b.perm)) a.n)
def renPad (a b : KeyX) : Int := hideI b (wordTo (pickL (bitsL a.n a.pad) (invL a)) a.n)
def cRenew : Con := con (fun x : KeyX × KeyX => [.agg x.1.cells, .agg x.2.cells]) (fun _ => []) (fun x => x.1.ok ∧ x.2.ok ∧ x.1.n = x.2.n)
  (fun x K => K (.tuple [.agg [.int .i64 (.t fun _ => ofN x.1.n), .int .i64 (.t fun _ => renPerm x.1 x.2), .int .u16 (.t fun _ => renPad x.1 x.2)], .int .i64 (.l 0)]) [])
theorem e18 : EnvOk Tryd.prog (env [(35, cCheck2), (37, cInvert), (36, cHide0)]) := envOk_cons (envOk_cons (envOk_cons envOk_nil s36 k36.callable) s37 k37.callable) s35 k35.callable
def showI (k : KeyX) (w : Int) : Int := hideI (invI k) w
def cShow : Con := con (fun x : KeyX × Int => [.agg x.1.cells, .int .u16 (.t fun _ => x.2)]) (fun _ => []) (fun x => x.1.ok ∧ 0 ≤ x.2 ∧ x.2 < ofN (2 ^ x.1.n)) (fun x K => K (.tuple [.int .u16 (.t fun _ => showI x.1 x.2), .int .i64 (.l 0)]) [])
theorem s18 : Sound Tryd.prog 18 cShow := by
  refine k18.con tabOk e18 mixed o18 fun x K hl h2 => ?_
  obtain ⟨⟨n, perm, pad⟩, w⟩ := x
  have ha : KeyX.ok ⟨n, perm, pad⟩ := hl.1
  have hi := inv_ok ha
  cbv
  refine ⟨(⟨n, perm, pad⟩, w), hl, Ent.of_wvs ?_, trivial, ?_⟩
  · cbv
    repeat' first | apply And.intro | exact trivial | exact SameI.mk (by with_reducible rfl) | exact SameN.mk (by with_reducible rfl) | exact SameL.mk (by with_reducible rfl) | exact SameB.mk (by with_reducible rfl) | exact LeN.mk (by with_reducible exact Nat.le_refl _) | apply SameI.mk | apply SameN.mk | apply SameL.mk | apply SameB.mk | apply LeN.mk
    all_goals first | rfl | exact (ofN_succ _).symm | (simp only [toNat_ofN, NX.v, IX.v, Nat.le_refl]; done) | ((try simp only [toNat_ofN, NX.v, IX.v, nadd, nsub]); omega) | skip
  cbv
  refine ⟨⟨n, perm, pad⟩, ha, Ent.of_wvs ?_, trivial, ?_⟩
  · cbv
    repeat' first | apply And.intro | exact trivial | exact SameI.mk (by with_reducible rfl) | exact SameN.mk (by with_reducible rfl) | exact SameL.mk (by with_reducible rfl) | exact SameB.mk (by with_reducible rfl) | exact LeN.mk (by with_reducible exact Nat.le_refl _) | apply SameI.mk | apply SameN.mk | apply SameL.mk | apply SameB.mk | apply LeN.mk
    all_goals first | rfl | exact (ofN_succ _).symm | (simp only [toNat_ofN, NX.v, IX.v, Nat.le_refl]; done) | ((try simp only [toNat_ofN, NX.v, IX.v, nadd, nsub]); omega) | skip
  cbv
  obtain ⟨p', hp'⟩ : ∃ p, p = ofN (numTo (invL ⟨n, perm, pad⟩) n) := ⟨_, rfl⟩
  obtain ⟨q', hq'⟩ : ∃ p, p = wordTo (pickL (bitsL n pad) (invL ⟨n, perm, pad⟩)) n := ⟨_, rfl⟩
  refine ⟨(⟨n, p', q'⟩, w), (by rw [hp', hq']; exact hi), Ent.of_wvs ?_, trivial, ?_⟩
  · cbv
    repeat' first | apply And.intro | exact trivial | exact SameI.mk (by with_reducible rfl) | exact SameN.mk (by with_reducible rfl) | exact SameL.mk (by with_reducible rfl) | exact SameB.mk (by with_reducible rfl) | exact LeN.mk (by with_reducible exact Nat.le_refl _) | apply SameI.mk | apply SameN.mk | apply SameL.mk | apply SameB.mk | apply LeN.mk
    all_goals first | rfl | exact (ofN_succ _).symm | (simp only [toNat_ofN, NX.v, IX.v, Nat.le_refl]; done) | ((try simp only [toNat_ofN, NX.v, IX.v, nadd, nsub]); omega) | skip
  cbv
  refine .mk _ _ h2 ?_ ?_
  all_goals cbv
  all_goals repeat' first | apply And.intro | exact trivial | exact SameI.mk (by with_reducible rfl) | exact SameN.mk (by with_reducible rfl) | exact SameL.mk (by with_reducible rfl) | exact SameB.mk (by with_reducible rfl) | exact LeN.mk (by with_reducible exact Nat.le_refl _) | apply SameI.mk | apply SameN.mk | apply SameL.mk | apply SameB.mk | apply LeN.mk
  all_goals first | rfl | exact (ofN_succ _).symm | (simp only [toNat_ofN, NX.v, IX.v, Nat.le_refl]; done) | ((try simp only [toNat_ofN, NX.v, IX.v, nadd, nsub]); omega) | skip
  all_goals (subst hp' hq'; rfl)
/-! ### Play -/
theorem e19 : EnvOk Tryd.prog (env [(55, cParty), (56, cPlay0)]) := envOk_cons (envOk_cons envOk_nil s56 k56.callable) s55 k55.callable
def cPlay : Con := con (fun x : PartyX × PartyX × Int × Int => [.agg x.1.cells, .agg x.2.1.cells, .int .u16 (.t fun _ => x.2.2.1), .int .u16 (.t fun _ => x.2.2.2)]) (fun _ => [])
  (fun x => x.1.wf ∧ x.2.1.wf ∧ partyB x.1 = true ∧ partyB x.2.1 = true ∧ x.2.2.1 < 32768 ∧ x.2.2.2 < 32768)
  (fun x K => K (.tuple [.agg (talkCells x.1 x.2.1 x.2.2.1 x.2.2.2), .int .i64 (.l 0)]) [])
theorem s39 : Sound Tryd.prog 39 cPlay := by
  refine k39.con tabOk e19 mixed o39 fun x K hl h2 => ?_
  obtain ⟨⟨A, U, sh1, t1⟩, ⟨B, V, sh2, t2⟩, x, y⟩ := x
  have hp : partyB ⟨A, U, sh1, t1⟩ = true := hl.2.2.1
  have hq : partyB ⟨B, V, sh2, t2⟩ = true := hl.2.2.2.1
  have hx : x < 32768 := hl.2.2.2.2.1
  have hy : y < 32768 := hl.2.2.2.2.2
  cbv
  refine ⟨⟨A, U, sh1, t1⟩, trivial, Ent.of_wvs ?_, trivial, ?_⟩
  · cbv
    repeat' first | apply And.intro | exact trivial | exact SameI.mk (by with_reducible rfl) | exact SameN.mk (by with_reducible rfl) | exact SameL.mk (by with_reducible rfl) | exact SameB.mk (by with_reducible rfl) | exact LeN.mk (by with_reducible exact Nat.le_refl _) | apply SameI.mk | apply SameN.mk | apply SameL.mk | apply SameB.mk | apply LeN.mk
    all_goals first | rfl | exact (ofN_succ _).symm | (simp only [toNat_ofN, NX.v, IX.v, Nat.le_refl]; done) | ((try simp only [toNat_ofN, NX.v, IX.v, nadd, nsub]); omega) | skip
  cbv
  refine Br.f (fun b => ?_) (fun b => ?_)
  · rw [hp] at b; cases b
  cbv
  refine ⟨⟨B, V, sh2, t2⟩, trivial, Ent.of_wvs ?_, trivial, ?_⟩
  · cbv
    repeat' first | apply And.intro | exact trivial | exact SameI.mk (by with_reducible rfl) | exact SameN.mk (by with_reducible rfl) | exact SameL.mk (by with_reducible rfl) | exact SameB.mk (by with_reducible rfl) | exact LeN.mk (by with_reducible exact Nat.le_refl _) | apply SameI.mk | apply SameN.mk | apply SameL.mk | apply SameB.mk | apply LeN.mk
    all_goals first | rfl | exact (ofN_succ _).symm | (simp only [toNat_ofN, NX.v, IX.v, Nat.le_refl]; done) | ((try simp only [toNat_ofN, NX.v, IX.v, nadd, nsub]); omega) | skip
  cbv
  refine Br.f (fun b => ?_) (fun b => ?_)
  · rw [hq] at b; cases b
  cbv
  refine Br.f (fun b => ?_) (fun b => ?_)
  · have h : 32768 ≤ mm true x y := ge_t.1 b
    simp only [mm] at h
    split at h <;> omega
  cbv
  refine ⟨(⟨A, U, sh1, t1⟩, ⟨B, V, sh2, t2⟩, x, y), ⟨hl.1, hl.2.1⟩, Ent.of_wvs ?_, trivial, ?_⟩
  · cbv
    repeat' first | apply And.intro | exact trivial | exact SameI.mk (by with_reducible rfl) | exact SameN.mk (by with_reducible rfl) | exact SameL.mk (by with_reducible rfl) | exact SameB.mk (by with_reducible rfl) | exact LeN.mk (by with_reducible exact Nat.le_refl _) | apply SameI.mk | apply SameN.mk | apply SameL.mk | apply SameB.mk | apply LeN.mk
    all_goals first | rfl | exact (ofN_succ _).symm | (simp only [toNat_ofN, NX.v, IX.v, Nat.le_refl]; done) | ((try simp only [toNat_ofN, NX.v, IX.v, nadd, nsub]); omega) | skip
  cbv
  refine .mk _ _ h2 ?_ ?_
  all_goals cbv
  all_goals repeat' first | apply And.intro | exact trivial | exact SameI.mk (by with_reducible rfl) | exact SameN.mk (by with_reducible rfl) | exact SameL.mk (by with_reducible rfl) | exact SameB.mk (by with_reducible rfl) | exact LeN.mk (by with_reducible exact Nat.le_refl _) | apply SameI.mk | apply SameN.mk | apply SameL.mk | apply SameB.mk | apply LeN.mk
  all_goals first | rfl | exact (ofN_succ _).symm | (simp only [toNat_ofN, NX.v, IX.v, Nat.le_refl]; done) | ((try simp only [toNat_ofN, NX.v, IX.v, nadd, nsub]); omega) | skip
end Go.Proofs.YtlgmbpnlakjefaaDoor
end

section
/- Contracts: the least limit for which a talk says that two words match. -/
namespace Go.Proofs.YtlgmbpnlakjefaaDoor
open Go.Sy
set_option maxRecDepth 100000
set_option maxHeartbeats 2000000
set_option linter.unusedSimpArgs false
set_option linter.unusedVariables false
theorem e20 : EnvOk Tryd.prog (env [(38, cParties), (39, cPlay)]) := envOk_cons (envOk_cons envOk_nil s39 k39.callable) s38 k38.callable
structure LeastX where
  d : DealX
  x : Int
  y : Int
  k : Nat
def LeastX.ok (z : LeastX) : Prop := z.d.wf ∧ dealB z.d = true ∧ z.d.one.wf ∧ partyB z.d.one = true ∧ z.x < 32768 ∧ z.y < 32768 ∧ z.k ≤ 15 ∧
  ∀ i : Nat, i ≤ 15 → (z.d.snd (ofN i)).wf ∧ partyB (z.d.snd (ofN i)) = true ∧ tkM z.d.one (z.d.snd (ofN i)) z.x z.y = decide (z.k ≤ i)
def cLeast : Con := con (fun z : LeastX => [.agg z.d.cells, .int .u16 (.t fun _ => z.x), .int .u16 (.t fun _ => z.y)]) (fun _ => []) LeastX.ok (fun z K => K (.tuple [.int .i64 (.t fun _ => ofN z.k), .bool (.t fun _ => true)]) [])
def far (k i : Nat) : Int := match decide (k < i) with | true => ofN k | false => -1
theorem s19 : Sound Tryd.prog 19 cLeast := by
  refine k19.con tabOk e20 mixed o19 fun z K hl h2 => ?_
  obtain ⟨⟨a, b, u, rc, rs, t⟩, x, y, k⟩ := z
  have hd := hl.1
  have hd2 := hl.2.1
  have ho := hl.2.2.1
  have ho2 := hl.2.2.2.1
  have hx := hl.2.2.2.2.1
  have hy := hl.2.2.2.2.2.1
  have hk : k ≤ 15 := hl.2.2.2.2.2.2.1
  have hm := hl.2.2.2.2.2.2.2
  cbv
  refine loop_inv [1, 2, 3, 8, 15] (fun (i : Nat) => i ≤ 16) (fun i => ⟨[.undef, .int .u16 (.t fun _ => x), .int .u16 (.t fun _ => y), .ptr 0 (.l 0) (.l 0), .undef, .undef, .undef, .undef, .int .i64 (.t fun _ => far k i), .undef, .undef, .undef, .undef, .undef, .undef, .int .i64 (.t fun _ => ofN i), .undef, .undef, .undef, .undef, .undef, .undef, .undef, .undef, .undef, .undef, .undef, .undef, .undef, .undef, .undef, .undef, .undef, .undef, .undef, .undef, .undef, .undef, .undef, .undef, .undef, .undef, .undef, .undef, .undef, .undef, .undef, .undef, .undef, .undef, .undef, .undef, .undef, .undef, .undef, .undef, .undef, .undef, .undef], [some ⟨true, .cells (DealX.cells ⟨a, b, u, rc, rs, t⟩)⟩]⟩) (fun i => 16 - i) 0 (Nat.zero_le _) ?_ ?_
  · cbv
    repeat' first | apply And.intro | exact trivial | exact SameI.mk (by with_reducible rfl) | exact SameN.mk (by with_reducible rfl) | exact SameL.mk (by with_reducible rfl) | exact SameB.mk (by with_reducible rfl) | exact LeN.mk (by with_reducible exact Nat.le_refl _) | apply SameI.mk | apply SameN.mk | apply SameL.mk | apply SameB.mk | apply LeN.mk
    all_goals first | rfl | exact (ofN_succ _).symm | (simp only [toNat_ofN, NX.v, IX.v, Nat.le_refl]; done) | ((try simp only [toNat_ofN, NX.v, IX.v, nadd, nsub]); omega) | skip
  · intro i R hi hR
    have i0 := ofN_nonneg i
    cbv
    refine Br.mk (fun hc => ?_) (fun hc => ?_)
    · have hi2 : i < 16 := by have : ofN i < 16 := lt_t.1 hc; simp only [ofN] at this; omega
      obtain ⟨m1, m2, m3⟩ := hm i (by omega)
      cbv
      refine ⟨(⟨a, b, u, rc, rs, t⟩, ofN i), ⟨hd, hd2, i0, by simp only [ofN]; omega⟩, Ent.of_wvs ?_, trivial, ?_⟩
      · cbv
        repeat' first | apply And.intro | exact trivial | exact SameI.mk (by with_reducible rfl) | exact SameN.mk (by with_reducible rfl) | exact SameL.mk (by with_reducible rfl) | exact SameB.mk (by with_reducible rfl) | exact LeN.mk (by with_reducible exact Nat.le_refl _) | apply SameI.mk | apply SameN.mk | apply SameL.mk | apply SameB.mk | apply LeN.mk
        all_goals first | rfl | exact (ofN_succ _).symm | (simp only [toNat_ofN, NX.v, IX.v, Nat.le_refl]; done) | ((try simp only [toNat_ofN, NX.v, IX.v, nadd, nsub]); omega) | skip
      cbv
      refine ⟨(DealX.one ⟨a, b, u, rc, rs, t⟩, DealX.snd ⟨a, b, u, rc, rs, t⟩ (ofN i), x, y), ⟨ho, m1, ho2, m2, hx, hy⟩, Ent.of_wvs ?_, trivial, ?_⟩
      · cbv
        repeat' first | apply And.intro | exact trivial | exact SameI.mk (by with_reducible rfl) | exact SameN.mk (by with_reducible rfl) | exact SameL.mk (by with_reducible rfl) | exact SameB.mk (by with_reducible rfl) | exact LeN.mk (by with_reducible exact Nat.le_refl _) | apply SameI.mk | apply SameN.mk | apply SameL.mk | apply SameB.mk | apply LeN.mk
        all_goals first | rfl | exact (ofN_succ _).symm | (simp only [toNat_ofN, NX.v, IX.v, Nat.le_refl]; done) | ((try simp only [toNat_ofN, NX.v, IX.v, nadd, nsub]); omega) | skip
      cbv
      refine Br.mk (fun b1 => ?_) (fun b1 => ?_)
      · have b1 : ¬ k ≤ i := of_decide_eq_false (m3.symm.trans (bnot_t.1 b1))
        have hf : far k i = -1 := by unfold far; rw [decide_eq_false (by omega : ¬ k < i)]
        have hf2 : far k (i + 1) = -1 := by unfold far; rw [decide_eq_false (by omega : ¬ k < i + 1)]
        cbv
        refine Br.f (fun b2 => ?_) (fun b2 => ?_)
        · have h : 0 ≤ far k i := ge_t.1 b2
          rw [hf] at h; omega
        cbv
        refine Br.f (fun b3 => ?_) (fun b3 => ?_)
        · exact b1 (of_decide_eq_true (m3.symm.trans b3))
        cbv
        refine Chk.mk (inR64 (by rw [aop_add]; simp only [ofN]; omega)) ?_
        cbv
        refine .mk (hR (i + 1) _ hi2 (by omega) ?_)
        cbv
        repeat' first | apply And.intro | exact trivial | exact SameI.mk (by with_reducible rfl) | exact SameN.mk (by with_reducible rfl) | exact SameL.mk (by with_reducible rfl) | exact SameB.mk (by with_reducible rfl) | exact LeN.mk (by with_reducible exact Nat.le_refl _) | apply SameI.mk | apply SameN.mk | apply SameL.mk | apply SameB.mk | apply LeN.mk
        all_goals first | rfl | exact (ofN_succ _).symm | (simp only [toNat_ofN, NX.v, IX.v, Nat.le_refl]; done) | ((try simp only [toNat_ofN, NX.v, IX.v, nadd, nsub]); omega) | skip
        all_goals (show far k i = far k (i + 1); rw [hf, hf2])
      · have b1 : k ≤ i := of_decide_eq_true (m3.symm.trans (bnot_f.1 b1))
        cbv
        refine Br.t (fun b3 => ?_) (fun b3 => ?_)
        · cbv
          refine Br.mk (fun b2 => ?_) (fun b2 => ?_)
          · have h : far k i < 0 := lt_t.1 b2
            have hki : k = i := by
              unfold far at h
              by_cases e : k < i
              · rw [decide_eq_true e] at h; simp only [ofN] at h; omega
              · omega
            have hf2 : far k (i + 1) = ofN i := by unfold far; rw [decide_eq_true (by omega : k < i + 1), hki]
            cbv
            refine Chk.mk (inR64 (by rw [aop_add]; simp only [ofN]; omega)) ?_
            cbv
            refine .mk (hR (i + 1) _ hi2 (by omega) ?_)
            cbv
            repeat' first | apply And.intro | exact trivial | exact SameI.mk (by with_reducible rfl) | exact SameN.mk (by with_reducible rfl) | exact SameL.mk (by with_reducible rfl) | exact SameB.mk (by with_reducible rfl) | exact LeN.mk (by with_reducible exact Nat.le_refl _) | apply SameI.mk | apply SameN.mk | apply SameL.mk | apply SameB.mk | apply LeN.mk
            all_goals first | rfl | exact (ofN_succ _).symm | (simp only [toNat_ofN, NX.v, IX.v, Nat.le_refl]; done) | ((try simp only [toNat_ofN, NX.v, IX.v, nadd, nsub]); omega) | skip
            all_goals (show ofN i = far k (i + 1); rw [hf2])
          · have h : ¬ far k i < 0 := lt_f.1 b2
            have hki : k < i := by
              unfold far at h
              by_cases e : k < i
              · exact e
              · rw [decide_eq_false e] at h; exact absurd (show (-1 : Int) < 0 by decide) h
            have hf2 : far k i = far k (i + 1) := by unfold far; rw [decide_eq_true hki, decide_eq_true (by omega : k < i + 1)]
            cbv
            refine Chk.mk (inR64 (by rw [aop_add]; simp only [ofN]; omega)) ?_
            cbv
            refine .mk (hR (i + 1) _ hi2 (by omega) ?_)
            cbv
            repeat' first | apply And.intro | exact trivial | exact SameI.mk (by with_reducible rfl) | exact SameN.mk (by with_reducible rfl) | exact SameL.mk (by with_reducible rfl) | exact SameB.mk (by with_reducible rfl) | exact LeN.mk (by with_reducible exact Nat.le_refl _) | apply SameI.mk | apply SameN.mk | apply SameL.mk | apply SameB.mk | apply LeN.mk
            all_goals first | rfl | exact (ofN_succ _).symm | (simp only [toNat_ofN, NX.v, IX.v, Nat.le_refl]; done) | ((try simp only [toNat_ofN, NX.v, IX.v, nadd, nsub]); omega) | skip
            all_goals (show far k i = far k (i + 1); exact hf2)
        · have h3 : ¬ k ≤ i := of_decide_eq_false (m3.symm.trans b3)
          omega
    · have hi2 : i = 16 := by have : ¬ ofN i < 16 := lt_f.1 hc; simp only [ofN] at this; omega
      subst hi2
      cbv
      refine .mk ?_
      cbv
      have hf : far k 16 = ofN k := by unfold far; rw [decide_eq_true (by omega : k < 16)]
      refine .mk _ _ h2 ?_ ?_
      all_goals cbv
      all_goals repeat' first | apply And.intro | exact trivial | exact SameI.mk (by with_reducible rfl) | exact SameN.mk (by with_reducible rfl) | exact SameL.mk (by with_reducible rfl) | exact SameB.mk (by with_reducible rfl) | exact LeN.mk (by with_reducible exact Nat.le_refl _) | apply SameI.mk | apply SameN.mk | apply SameL.mk | apply SameB.mk | apply LeN.mk
      all_goals first | rfl | exact (ofN_succ _).symm | (simp only [toNat_ofN, NX.v, IX.v, Nat.le_refl]; done) | ((try simp only [toNat_ofN, NX.v, IX.v, nadd, nsub]); omega) | skip
      show cop .ge (far k 16) 0 = true
      rw [hf]; exact ge_t.2 (ofN_nonneg k)
end Go.Proofs.YtlgmbpnlakjefaaDoor
end

section
/- Contracts: the reference's checks of keys and deals. -/
namespace Go.Proofs.YtlgmbpnlakjefaaDoor
open Go.Sy
set_option maxRecDepth 100000
set_option maxHeartbeats 1000000
set_option linter.unusedSimpArgs false
set_option linter.unusedVariables false
/-! ### numbers, tabled -/
def cNumbers : Con := con (fun f : Nat → Int => [.agg (cI .u8 f 15 0)]) (fun _ => []) (fun _ => True) (fun f K => K (.bool (.t fun _ => !anyGe 31 15 f)) [])
theorem shr31 {x : Int} (h : 0 ≤ x ∧ x < 4294967296) : (aop (.shr .u32) x 31 = 0) ↔ ¬ 2147483648 ≤ x := by
  show x.fdiv (2 ^ 31) = 0 ↔ _
  rw [Int.fdiv_eq_ediv_of_nonneg _ (by decide)]
  omega
def cTabled : Con := con (fun f : Nat → Int => [.agg (cI .u32 f 31 0)]) (fun _ => []) (fun f => ∀ i, 0 ≤ f i ∧ f i < 4294967296) (fun f K => K (.bool (.t fun _ => !anyGe 2147483648 31 f)) [])
def withinB (n lo hi : Int) : Bool := decide (lo ≤ n) && decide (n ≤ hi)
def cWithin : Con := con (fun x : Int × Int × Int => [.int .i64 (.t fun _ => x.1), .int .i64 (.t fun _ => x.2.1), .int .i64 (.t fun _ => x.2.2)]) (fun _ => []) (fun _ => True) (fun x K => K (.bool (.t fun _ => withinB x.1 x.2.1 x.2.2)) [])
theorem s21 : Sound Tryd.prog 21 cWithin := by
  refine k21.con tabOk envOk_nil mixed o21 fun x K hl h2 => ?_
  obtain ⟨n, lo, hi⟩ := x
  cbv
  refine Br.mk (fun b => ?_) (fun b => ?_)
  · have b : lo ≤ n := ge_t.1 b
    cbv
    refine .mk _ _ h2 ?_ ?_
    all_goals cbv
    all_goals repeat' first | apply And.intro | exact trivial | exact SameI.mk (by with_reducible rfl) | exact SameN.mk (by with_reducible rfl) | exact SameL.mk (by with_reducible rfl) | exact SameB.mk (by with_reducible rfl) | exact LeN.mk (by with_reducible exact Nat.le_refl _) | apply SameI.mk | apply SameN.mk | apply SameL.mk | apply SameB.mk | apply LeN.mk
    all_goals first | rfl | exact (ofN_succ _).symm | (simp only [toNat_ofN, NX.v, IX.v, Nat.le_refl]; done) | ((try simp only [toNat_ofN, NX.v, IX.v, nadd, nsub]); omega) | skip
    show decide (n ≤ hi) = withinB n lo hi
    simp [withinB, b]
  · have b : ¬ lo ≤ n := ge_f.1 b
    cbv
    refine .mk _ _ h2 ?_ ?_
    all_goals cbv
    all_goals repeat' first | apply And.intro | exact trivial | exact SameI.mk (by with_reducible rfl) | exact SameN.mk (by with_reducible rfl) | exact SameL.mk (by with_reducible rfl) | exact SameB.mk (by with_reducible rfl) | exact LeN.mk (by with_reducible exact Nat.le_refl _) | apply SameI.mk | apply SameN.mk | apply SameL.mk | apply SameB.mk | apply LeN.mk
    all_goals first | rfl | exact (ofN_succ _).symm | (simp only [toNat_ofN, NX.v, IX.v, Nat.le_refl]; done) | ((try simp only [toNat_ofN, NX.v, IX.v, nadd, nsub]); omega) | skip
    show false = withinB n lo hi
    simp [withinB, b]
def cFactorial : Con := con (fun n : Nat => [.int .i64 (.t fun _ => ofN n)]) (fun _ => []) (fun n => 1 ≤ n ∧ n ≤ 15) (fun n K => K (.int .i64 (.t fun _ => ofN (fact n))) [])
theorem s22 : Sound Tryd.prog 22 cFactorial := by
  refine k22.con tabOk envOk_nil mixed o22 fun n K hl h2 => ?_
  have hn1 := hl.1
  have hn2 := hl.2
  cbv
  refine loop_inv [0, 3, 4] (fun (j : Nat) => j + 1 ≤ n) (fun j => ⟨[.int .i64 (.t fun _ => ofN n), .undef, .undef, .int .i64 (.t fun _ => ofN (fact (j + 1))), .int .i64 (.t fun _ => ofN j + 2), .undef, .undef, .undef, .undef, .undef, .undef, .undef, .undef, .undef], []⟩) (fun j => n - j) 0 hn1 ?_ ?_
  · cbv
    repeat' first | apply And.intro | exact trivial | exact SameI.mk (by with_reducible rfl) | exact SameN.mk (by with_reducible rfl) | exact SameL.mk (by with_reducible rfl) | exact SameB.mk (by with_reducible rfl) | exact LeN.mk (by with_reducible exact Nat.le_refl _) | apply SameI.mk | apply SameN.mk | apply SameL.mk | apply SameB.mk | apply LeN.mk
    all_goals first | rfl | exact (ofN_succ _).symm | (simp only [toNat_ofN, NX.v, IX.v, Nat.le_refl]; done) | ((try simp only [toNat_ofN, NX.v, IX.v, nadd, nsub]); omega) | skip
  · intro j R hj hR
    have j0 := ofN_nonneg j
    cbv
    refine Br.mk (fun hc => ?_) (fun hc => ?_)
    · have hc : ofN j + 2 ≤ ofN n := le_t.1 hc
      have hj2 : j + 2 ≤ n := by simp only [ofN] at hc; omega
      have hf := fact_le15 (n := j + 2) (by omega)
      have e : ofN (fact (j + 1)) * (ofN j + 2) = ofN (fact (j + 2)) := by
        show ofN (fact (j + 1)) * (ofN j + 2) = ofN (fact (j + 1) * (j + 1 + 1))
        simp only [ofN]; rw [Int.natCast_mul]; congr 1
      cbv
      refine Chk.mk (by show inR .i64 (ofN (fact (j + 1)) * (ofN j + 2)) = true; rw [e]; exact inR64 (by simp only [ofN]; omega)) ?_
      cbv
      refine Chk.mk (inR64 (by rw [aop_add]; simp only [ofN]; omega)) ?_
      cbv
      refine .mk (hR (j + 1) _ hj2 (by omega) ?_)
      cbv
      repeat' first | apply And.intro | exact trivial | exact SameI.mk (by with_reducible rfl) | exact SameN.mk (by with_reducible rfl) | exact SameL.mk (by with_reducible rfl) | exact SameB.mk (by with_reducible rfl) | exact LeN.mk (by with_reducible exact Nat.le_refl _) | apply SameI.mk | apply SameN.mk | apply SameL.mk | apply SameB.mk | apply LeN.mk
      all_goals first | rfl | exact (ofN_succ _).symm | (simp only [toNat_ofN, NX.v, IX.v, Nat.le_refl]; done) | ((try simp only [toNat_ofN, NX.v, IX.v, nadd, nsub]); omega) | skip
      all_goals first | exact e | (show ofN j + 2 + 1 = ofN (j + 1) + 2; simp only [ofN]; omega)
    · have hc : ¬ ofN j + 2 ≤ ofN n := le_f.1 hc
      have hj2 : j + 1 = n := by simp only [ofN] at hc; omega
      subst hj2
      cbv
      refine .mk ?_
      cbv
      refine .mk _ _ h2 ?_ ?_
      all_goals cbv
      all_goals repeat' first | apply And.intro | exact trivial | exact SameI.mk (by with_reducible rfl) | exact SameN.mk (by with_reducible rfl) | exact SameL.mk (by with_reducible rfl) | exact SameB.mk (by with_reducible rfl) | exact LeN.mk (by with_reducible exact Nat.le_refl _) | apply SameI.mk | apply SameN.mk | apply SameL.mk | apply SameB.mk | apply LeN.mk
      all_goals first | rfl | exact (ofN_succ _).symm | (simp only [toNat_ofN, NX.v, IX.v, Nat.le_refl]; done) | ((try simp only [toNat_ofN, NX.v, IX.v, nadd, nsub]); omega) | skip
def cFits : Con := con (fun x : Nat × Int => [.int .i64 (.t fun _ => ofN x.1), .int .u16 (.t fun _ => x.2)]) (fun _ => []) (fun x => x.1 ≤ 15 ∧ 0 ≤ x.2 ∧ x.2 ≤ 65535) (fun x K => K (.bool (.t fun _ => decide (x.2 < ofN (2 ^ x.1)))) [])
theorem s23 : Sound Tryd.prog 23 cFits := by
  refine k23.con tabOk envOk_nil mixed o23 fun x K hl h2 => ?_
  obtain ⟨n, w⟩ := x
  have a2 : n ≤ 15 := hl.1
  have a3 : 0 ≤ w := hl.2.1
  have a4 : w ≤ 65535 := hl.2.2
  have s1 := shl1 a2
  have s2 := ofN_nonneg n
  cbv
  refine Chk.mk (s2) ?_
  cbv
  refine .mk _ _ h2 ?_ ?_
  all_goals cbv
  all_goals repeat' first | apply And.intro | exact trivial | exact SameI.mk (by with_reducible rfl) | exact SameN.mk (by with_reducible rfl) | exact SameL.mk (by with_reducible rfl) | exact SameB.mk (by with_reducible rfl) | exact LeN.mk (by with_reducible exact Nat.le_refl _) | apply SameI.mk | apply SameN.mk | apply SameL.mk | apply SameB.mk | apply LeN.mk
  all_goals first | rfl | exact (ofN_succ _).symm | (simp only [toNat_ofN, NX.v, IX.v, Nat.le_refl]; done) | ((try simp only [toNat_ofN, NX.v, IX.v, nadd, nsub]); omega) | skip
  show decide (IntKind.i64.wrap w < aop (.shl .i64) 1 (ofN n)) = decide (w < ofN (2 ^ n))
  rw [s1, wrap64 (by omega)]
/-! ### Valid -/
def validB (b perm pad : Int) : Bool := decide (1 ≤ b) && decide (b ≤ 15) && decide (0 ≤ perm) && decide (perm < ofN (fact b.toNat)) && decide (pad < ofN (2 ^ b.toNat))
def cValid : Con := con (fun x : Int × Int × Int => [.agg [.int .i64 (.t fun _ => x.1), .int .i64 (.t fun _ => x.2.1), .int .u16 (.t fun _ => x.2.2)]]) (fun _ => []) (fun x => 0 ≤ x.2.2 ∧ x.2.2 ≤ 65535) (fun x K => K (.bool (.t fun _ => validB x.1 x.2.1 x.2.2)) [])
theorem e21 : EnvOk Tryd.prog (env [(21, cWithin), (22, cFactorial), (23, cFits)]) := envOk_cons (envOk_cons (envOk_cons envOk_nil s23 k23.callable) s22 k22.callable) s21 k21.callable
theorem s8 : Sound Tryd.prog 8 cValid := by
  refine k8.con tabOk e21 mixed o8 fun x K hl h2 => ?_
  obtain ⟨b, perm, pad⟩ := x
  have hpd : 0 ≤ pad ∧ pad ≤ 65535 := hl
  cbv
  refine ⟨(b, 1, 15), trivial, Ent.of_wvs ?_, trivial, ?_⟩
  · cbv
    repeat' first | apply And.intro | exact trivial | exact SameI.mk (by with_reducible rfl) | exact SameN.mk (by with_reducible rfl) | exact SameL.mk (by with_reducible rfl) | exact SameB.mk (by with_reducible rfl) | exact LeN.mk (by with_reducible exact Nat.le_refl _) | apply SameI.mk | apply SameN.mk | apply SameL.mk | apply SameB.mk | apply LeN.mk
    all_goals first | rfl | exact (ofN_succ _).symm | (simp only [toNat_ofN, NX.v, IX.v, Nat.le_refl]; done) | ((try simp only [toNat_ofN, NX.v, IX.v, nadd, nsub]); omega) | skip
  cbv
  refine Br.mk (fun c => ?_) (fun c => ?_)
  · have c1 : 1 ≤ b ∧ b ≤ 15 := by
      have c : withinB b 1 15 = true := c
      simpa [withinB] using c
    have eb : b = ofN b.toNat := ofN_of (by omega)
    have hn : 1 ≤ b.toNat ∧ b.toNat ≤ 15 := by omega
    have hf := fact_le15 hn.2
    cbv
    refine ⟨b.toNat, hn, Ent.of_wvs ?_, trivial, ?_⟩
    · cbv
      repeat' first | apply And.intro | exact trivial | exact SameI.mk (by with_reducible rfl) | exact SameN.mk (by with_reducible rfl) | exact SameL.mk (by with_reducible rfl) | exact SameB.mk (by with_reducible rfl) | exact LeN.mk (by with_reducible exact Nat.le_refl _) | apply SameI.mk | apply SameN.mk | apply SameL.mk | apply SameB.mk | apply LeN.mk
      all_goals first | rfl | exact (ofN_succ _).symm | (simp only [toNat_ofN, NX.v, IX.v, Nat.le_refl]; done) | ((try simp only [toNat_ofN, NX.v, IX.v, nadd, nsub]); omega) | skip
      all_goals exact eb
    cbv
    refine Chk.mk (inR64 (by rw [aop_sub]; simp only [ofN]; omega)) ?_
    cbv
    refine ⟨(perm, 0, ofN (fact b.toNat) - 1), trivial, Ent.of_wvs ?_, trivial, ?_⟩
    · cbv
      repeat' first | apply And.intro | exact trivial | exact SameI.mk (by with_reducible rfl) | exact SameN.mk (by with_reducible rfl) | exact SameL.mk (by with_reducible rfl) | exact SameB.mk (by with_reducible rfl) | exact LeN.mk (by with_reducible exact Nat.le_refl _) | apply SameI.mk | apply SameN.mk | apply SameL.mk | apply SameB.mk | apply LeN.mk
      all_goals first | rfl | exact (ofN_succ _).symm | (simp only [toNat_ofN, NX.v, IX.v, Nat.le_refl]; done) | ((try simp only [toNat_ofN, NX.v, IX.v, nadd, nsub]); omega) | skip
    cbv
    refine Br.mk (fun c2 => ?_) (fun c2 => ?_)
    · have c2 : 0 ≤ perm ∧ perm ≤ ofN (fact b.toNat) - 1 := by
        have c2 : withinB perm 0 (ofN (fact b.toNat) - 1) = true := c2
        simpa [withinB] using c2
      cbv
      refine ⟨(b.toNat, pad), ⟨hn.2, hpd⟩, Ent.of_wvs ?_, trivial, ?_⟩
      · cbv
        repeat' first | apply And.intro | exact trivial | exact SameI.mk (by with_reducible rfl) | exact SameN.mk (by with_reducible rfl) | exact SameL.mk (by with_reducible rfl) | exact SameB.mk (by with_reducible rfl) | exact LeN.mk (by with_reducible exact Nat.le_refl _) | apply SameI.mk | apply SameN.mk | apply SameL.mk | apply SameB.mk | apply LeN.mk
        all_goals first | rfl | exact (ofN_succ _).symm | (simp only [toNat_ofN, NX.v, IX.v, Nat.le_refl]; done) | ((try simp only [toNat_ofN, NX.v, IX.v, nadd, nsub]); omega) | skip
        all_goals exact eb
      cbv
      refine .mk _ _ h2 ?_ ?_
      all_goals cbv
      all_goals repeat' first | apply And.intro | exact trivial | exact SameI.mk (by with_reducible rfl) | exact SameN.mk (by with_reducible rfl) | exact SameL.mk (by with_reducible rfl) | exact SameB.mk (by with_reducible rfl) | exact LeN.mk (by with_reducible exact Nat.le_refl _) | apply SameI.mk | apply SameN.mk | apply SameL.mk | apply SameB.mk | apply LeN.mk
      all_goals first | rfl | exact (ofN_succ _).symm | (simp only [toNat_ofN, NX.v, IX.v, Nat.le_refl]; done) | ((try simp only [toNat_ofN, NX.v, IX.v, nadd, nsub]); omega) | skip
      show decide (pad < ofN (2 ^ b.toNat)) = validB b perm pad
      simp [validB, c1, c2.1, show perm < ofN (fact b.toNat) from by omega]
    · have c2 : ¬ (0 ≤ perm ∧ perm ≤ ofN (fact b.toNat) - 1) := by
        have c2 : withinB perm 0 (ofN (fact b.toNat) - 1) = false := c2
        intro h
        simp [withinB, h.1, h.2] at c2
      cbv
      refine .mk _ _ h2 ?_ ?_
      all_goals cbv
      all_goals repeat' first | apply And.intro | exact trivial | exact SameI.mk (by with_reducible rfl) | exact SameN.mk (by with_reducible rfl) | exact SameL.mk (by with_reducible rfl) | exact SameB.mk (by with_reducible rfl) | exact LeN.mk (by with_reducible exact Nat.le_refl _) | apply SameI.mk | apply SameN.mk | apply SameL.mk | apply SameB.mk | apply LeN.mk
      all_goals first | rfl | exact (ofN_succ _).symm | (simp only [toNat_ofN, NX.v, IX.v, Nat.le_refl]; done) | ((try simp only [toNat_ofN, NX.v, IX.v, nadd, nsub]); omega) | skip
      show false = validB b perm pad
      have c3 : ¬ (0 ≤ perm ∧ perm < ofN (fact b.toNat)) := fun h => c2 ⟨h.1, by omega⟩
      by_cases e : 0 ≤ perm
      · have e2 : ¬ perm < ofN (fact b.toNat) := fun h => c3 ⟨e, h⟩
        simp [validB, e2]
      · simp [validB, e]
  · have c1 : ¬ (1 ≤ b ∧ b ≤ 15) := by
      have c : withinB b 1 15 = false := c
      intro h
      simp [withinB, h.1, h.2] at c
    cbv
    refine .mk _ _ h2 ?_ ?_
    all_goals cbv
    all_goals repeat' first | apply And.intro | exact trivial | exact SameI.mk (by with_reducible rfl) | exact SameN.mk (by with_reducible rfl) | exact SameL.mk (by with_reducible rfl) | exact SameB.mk (by with_reducible rfl) | exact LeN.mk (by with_reducible exact Nat.le_refl _) | apply SameI.mk | apply SameN.mk | apply SameL.mk | apply SameB.mk | apply LeN.mk
    all_goals first | rfl | exact (ofN_succ _).symm | (simp only [toNat_ofN, NX.v, IX.v, Nat.le_refl]; done) | ((try simp only [toNat_ofN, NX.v, IX.v, nadd, nsub]); omega) | skip
    show false = validB b perm pad
    by_cases e : 1 ≤ b
    · have e2 : ¬ b ≤ 15 := fun h => c1 ⟨e, h⟩
      simp [validB, e2]
    · simp [validB, e]
/-! ### ValidDeal -/
def validDealB (x : DealX) : Bool := !anyGe 31 15 x.a && !anyGe 31 15 x.b && !anyGe 31 15 x.u && decide (x.rc < 31) && decide (x.rs < 31) && !anyGe 2147483648 31 x.t
def cValidDeal : Con := con (fun x : DealX => [.agg x.cells]) (fun _ => []) (fun x => ∀ i, 0 ≤ x.t i ∧ x.t i < 4294967296) (fun x K => K (.bool (.t fun _ => validDealB x)) [])
end Go.Proofs.YtlgmbpnlakjefaaDoor
end

section
/- Contracts: codes of irises, unturned. -/
namespace Go.Proofs.YtlgmbpnlakjefaaDoor
open Go.Sy
set_option maxRecDepth 100000
set_option maxHeartbeats 1000000
set_option linter.unusedSimpArgs false
set_option linter.unusedVariables false
/-! ### OnesCount64 -/
abbrev U : IntKind := .u64
def on1 (x : Int) : Int := IntKind.u64.wrap (aop .add (aop (.bits .and .u64) (aop (.shr .u64) x 1) 6148914691236517205) (aop (.bits .and .u64) x 6148914691236517205))
def on2 (x : Int) : Int := IntKind.u64.wrap (aop .add (aop (.bits .and .u64) (aop (.shr .u64) x 2) 3689348814741910323) (aop (.bits .and .u64) x 3689348814741910323))
def on3 (x : Int) : Int := aop (.bits .and .u64) (IntKind.u64.wrap (aop .add (aop (.shr .u64) x 4) x)) 1085102592571150095
def onS (k : Int) (x : Int) : Int := IntKind.u64.wrap (aop .add x (aop (.shr .u64) x k))
def ones (x : Int) : Int := aop (.bits .and .i64) (IntKind.i64.wrap (onS 32 (onS 16 (onS 8 (on3 (on2 (on1 x))))))) 127
def cOnes : Con := con (fun x : Int => [.int .u64 (.t fun _ => x)]) (fun _ => []) (fun _ => True) (fun x K => K (.int .i64 (.t fun _ => ones x)) [])
def cIris : Con := con (fun x : Int × Int => [.agg [.int .u64 (.t fun _ => x.1), .int .u64 (.t fun _ => x.2)]]) (fun _ => []) (fun x => aop (.bits .andNot .u64) x.1 x.2 = 0) (fun x K => K (.int .i64 (.l 0)) [])
def cCmp : Con := con (fun x : Int × Int × Int × Int => [.agg [.int .u64 (.t fun _ => x.1), .int .u64 (.t fun _ => x.2.1)], .agg [.int .u64 (.t fun _ => x.2.2.1), .int .u64 (.t fun _ => x.2.2.2)]]) (fun _ => []) (fun _ => True)
  (fun x K => K (.tuple [.int .i64 (.t fun _ => ones (aop (.bits .and .u64) (aop (.bits .xor .u64) x.1 x.2.2.1) (aop (.bits .and .u64) x.2.1 x.2.2.2))), .int .i64 (.t fun _ => ones (aop (.bits .and .u64) x.2.1 x.2.2.2))]) [])
def cRot0 : Con := con (fun x : Int => [.int .u16 (.t fun _ => x), .int .i64 (.l 0)]) (fun _ => []) (fun x => 0 ≤ x ∧ x < 65536) (fun x K => K (.int .u16 (.t fun _ => x)) [])
theorem rot0 {a : Nat} (h : a < 65536) : aop (.bits .or .u16) (aop (.shl .u16) (ofN a) 0) (aop (.shr .u16) (ofN a) 16) = ofN a := by
  rw [show (0 : Int) = ofN 0 from rfl, show (16 : Int) = ofN 16 from rfl, shl16 (by decide) (by simpa using h), shr16 (by decide), or16 (by simpa using h) (by have := Nat.div_le_self a (2 ^ 16); omega)]
  rw [Nat.div_eq_of_lt (by simpa using h)]
  simp
theorem wrap_u64 {n : Nat} (h : n < 18446744073709551616) : IntKind.u64.wrap (n : Int) = ofN n := wrap_inR (by simp [inR, IntKind.min, IntKind.max, IntKind.signed, IntKind.bits]; omega)
theorem or64 {a b : Nat} (ha : a < 18446744073709551616) (hb : b < 18446744073709551616) : aop (.bits .or .u64) (ofN a) (ofN b) = ofN (a ||| b) := by
  show IntKind.u64.wrap ((BitVec.ofInt 64 (a : Int) ||| BitVec.ofInt 64 (b : Int)).toNat : Int) = _
  rw [BitVec.ofInt_natCast, BitVec.ofInt_natCast, BitVec.toNat_or, BitVec.toNat_ofNat, BitVec.toNat_ofNat, Nat.mod_eq_of_lt (by omega), Nat.mod_eq_of_lt (by omega)]
  exact wrap_u64 (Nat.or_lt_two_pow (n := 64) ha hb)
theorem and64 {a b : Nat} (ha : a < 18446744073709551616) (hb : b < 18446744073709551616) : aop (.bits .and .u64) (ofN a) (ofN b) = ofN (a &&& b) := by
  show IntKind.u64.wrap ((BitVec.ofInt 64 (a : Int) &&& BitVec.ofInt 64 (b : Int)).toNat : Int) = _
  rw [BitVec.ofInt_natCast, BitVec.ofInt_natCast, BitVec.toNat_and, BitVec.toNat_ofNat, BitVec.toNat_ofNat, Nat.mod_eq_of_lt (by omega), Nat.mod_eq_of_lt (by omega)]
  exact wrap_u64 (Nat.lt_of_le_of_lt Nat.and_le_left ha)
theorem xor64 {a b : Nat} (ha : a < 18446744073709551616) (hb : b < 18446744073709551616) : aop (.bits .xor .u64) (ofN a) (ofN b) = ofN (a ^^^ b) := by
  show IntKind.u64.wrap ((BitVec.ofInt 64 (a : Int) ^^^ BitVec.ofInt 64 (b : Int)).toNat : Int) = _
  rw [BitVec.ofInt_natCast, BitVec.ofInt_natCast, BitVec.toNat_xor, BitVec.toNat_ofNat, BitVec.toNat_ofNat, Nat.mod_eq_of_lt (by omega), Nat.mod_eq_of_lt (by omega)]
  exact wrap_u64 (Nat.xor_lt_two_pow (n := 64) ha hb)
theorem shr64 {a i : Nat} (hi : i ≤ 64) : aop (.shr .u64) (ofN a) (ofN i) = ofN (a / 2 ^ i) := by
  show (ofN a).fdiv (2 ^ (min (ofN i).toNat 64)) = _
  rw [toNat_ofN, Nat.min_eq_left hi]
  simp only [ofN]
  rw [show (2 : Int) ^ i = ((2 ^ i : Nat) : Int) by simp, Int.natCast_ediv, Int.fdiv_eq_ediv_of_nonneg _ (Int.natCast_nonneg _)]
theorem shl64 {a i : Nat} (hi : i ≤ 64) (h : a * 2 ^ i < 18446744073709551616) : aop (.shl .u64) (ofN a) (ofN i) = ofN (a * 2 ^ i) := by
  show IntKind.u64.wrap (ofN a * 2 ^ (min (ofN i).toNat 64)) = _
  rw [toNat_ofN, Nat.min_eq_left hi]
  simp only [ofN]
  rw [show (2 : Int) ^ i = ((2 ^ i : Nat) : Int) by simp, ← Int.natCast_mul]
  exact wrap_u64 h
theorem cut16 (n : Nat) : IntKind.u16.wrap (ofN n) = ofN (n % 65536) := by
  simp only [IntKind.wrap, IntKind.bits, IntKind.signed, ofN]
  simp
theorem or_add {a b i : Nat} (ha : a < 2 ^ i) : a ||| (b * 2 ^ i) = a + b * 2 ^ i := by
  rw [Nat.mul_comm, Nat.add_comm, Nat.two_pow_add_eq_or_of_lt ha, Nat.or_comm]
def cTurn0 : Con := con (fun w : Nat => [.int .u64 (.t fun _ => ofN w), .int .i64 (.l 0)]) (fun _ => []) (fun w => w < 18446744073709551616) (fun w K => K (.int .u64 (.t fun _ => ofN w)) [])
def cTurnI : Con := con (fun x : Nat × Nat => [.agg [.int .u64 (.t fun _ => ofN x.1), .int .u64 (.t fun _ => ofN x.2)], .int .i64 (.l 0)]) (fun _ => []) (fun x => x.1 < 18446744073709551616 ∧ x.2 < 18446744073709551616)
  (fun x K => K (.agg [.int .u64 (.t fun _ => ofN x.1), .int .u64 (.t fun _ => ofN x.2)]) [])
def irises (l : List (Int × Int)) : List (List D) := l.map fun p => [.i p.1, .i p.2]
def cValidI : Con := con (fun l : List (Int × Int) => [.sl 0 (.l 0) (.l 0) 2 (.t fun _ => l.length) (.t fun _ => l.length) false]) (fun l => [some ⟨true, .rows [.int .u64, .int .u64] fun _ => irises l⟩])
  (fun l => l.length ≤ 1000 ∧ ∀ p ∈ l, aop (.bits .andNot .u64) p.1 p.2 = 0) (fun l K => K (.bool (.l true)) [some ⟨true, .rows [.int .u64, .int .u64] fun _ => irises l⟩])
def whole : Nat := 1152921504606846975
theorem fits_whole {a : Nat} (h : a ≤ whole) : aop (.bits .andNot .u64) (ofN a) 1152921504606846975 = 0 := by
  show IntKind.u64.wrap ((BitVec.ofInt 64 (a : Int) &&& ~~~(BitVec.ofInt 64 ((whole : Nat) : Int))).toNat : Int) = 0
  have e : BitVec.ofInt 64 (a : Int) &&& ~~~(BitVec.ofInt 64 ((whole : Nat) : Int)) = 0#64 := by
    rw [BitVec.ofInt_natCast, BitVec.ofInt_natCast]
    apply BitVec.eq_of_getLsbD_eq
    intro i hi
    simp only [BitVec.getLsbD_and, BitVec.getLsbD_not, BitVec.getLsbD_ofNat, hi, decide_true, Bool.true_and, BitVec.getLsbD_zero]
    by_cases h60 : i < 60
    · have : whole.testBit i = true := by
        rw [show whole = 2 ^ 60 - 1 from rfl, Nat.testBit_two_pow_sub_one]; simpa using h60
      simp [this]
    · have : a.testBit i = false := Nat.testBit_lt_two_pow (Nat.lt_of_le_of_lt h (Nat.lt_of_lt_of_le (show whole < 2 ^ 60 by decide) (Nat.pow_le_pow_right (by decide) (by omega))))
      simp [this]
  rw [e]; rfl
theorem ofN_whole : ofN whole = 1152921504606846975 := rfl
theorem whole_lt : whole < 18446744073709551616 := by decide
attribute [local irreducible] whole ones aop
def codeCells (a : Nat) : List AV := [.int .u64 (.t fun _ => ofN a), .int .u64 (.l 1152921504606846975)]
def cCompare : Con := con (fun x : Nat × Nat => [.agg (codeCells x.1), .agg (codeCells x.2), .int .i64 (.l 0)]) (fun _ => []) (fun x => x.1 ≤ whole ∧ x.2 ≤ whole)
  (fun x K => K (.tuple [.int .i64 (.t fun _ => ones (aop (.bits .and .u64) (aop (.bits .xor .u64) (ofN x.1) (ofN x.2)) (ofN whole))), .int .i64 (.t fun _ => ones (ofN whole)), .int .i64 (.l 0)]) [])
end Go.Proofs.YtlgmbpnlakjefaaDoor
end

section
/- Plain law: a talk of two parties says whether two words differ in at most so many bits. -/
namespace Go.Proofs.YtlgmbpnlakjefaaDoor
open Go.Sy
set_option maxRecDepth 100000
set_option maxHeartbeats 1000000
set_option linter.unusedSimpArgs false
set_option linter.unusedVariables false
def sumI (f : Nat → Int) : Nat → Int
  | 0 => 0
  | n + 1 => sumI f n + f n
theorem sumI_add (f g : Nat → Int) : ∀ n, sumI (fun i => f i + g i) n = sumI f n + sumI g n
  | 0 => by simp [sumI]
  | n + 1 => by simp only [sumI, sumI_add f g n]; omega
theorem sumI_mod {f g : Nat → Int} : ∀ {n : Nat}, (∀ i, i < n → f i % 31 = g i % 31) → sumI f n % 31 = sumI g n % 31
  | 0, _ => rfl
  | n + 1, h => by
    have h1 := sumI_mod (n := n) fun i hi => h i (by omega)
    have h2 := h n (by omega)
    simp only [sumI]
    omega
theorem countF_mod (w p : Nat → Int) : ∀ n, countF w p n % 31 = sumI (fun i => w i - 2 * p i) n % 31
  | 0 => rfl
  | n + 1 => by
    have h := countF_mod w p n
    simp only [countF, sumI, opOf, m31]
    omega
theorem mul_mod31 (a b : Int) : (a * b) % 31 = ((a % 31) * (b % 31)) % 31 := Int.mul_emod a b 31
/-- the two sums of a talk are together the distance -/
theorem talk_sum {A B U V D E X Y : Int} (hD : D = m31 (X - A)) (hE : E = m31 (Y - B)) (hV : V = m31 (m31 (A * B) - U)) :
    (X - 2 * m31 (m31 (A * E) + U) + (Y - 2 * m31 (m31 (D * m31 (B + E)) + V))) % 31 = (X + Y - 2 * (X * Y)) % 31 := by
  have e1 : m31 (A * E) = (A * (Y - B)) % 31 := by rw [hE]; simp only [m31]; rw [mul_mod31 A, mul_mod31 A (Y - B), Int.emod_emod_of_dvd _ (by decide : (31 : Int) ∣ 31)]
  have e2 : m31 (D * m31 (B + E)) = ((X - A) * Y) % 31 := by
    rw [hD, hE]
    simp only [m31]
    rw [mul_mod31, mul_mod31 (X - A) Y]
    congr 2
    · omega
    · omega
  have e3 : A * (Y - B) = A * Y - A * B := Int.mul_sub A Y B
  have e4 : (X - A) * Y = X * Y - A * Y := Int.sub_mul X A Y
  rw [e1, e2, hV, e3, e4]
  simp only [m31]
  generalize A * Y = p
  generalize A * B = q
  generalize X * Y = r
  omega
def popN (x : Nat) : Nat → Nat
  | 0 => 0
  | n + 1 => popN x n + (x.testBit n).toNat
theorem popN_le (x : Nat) : ∀ n, popN x n ≤ n
  | 0 => Nat.le_refl _
  | n + 1 => by
    have := popN_le x n
    simp only [popN]
    cases x.testBit n <;> simp <;> omega
theorem sum_pop (x y : Nat) : ∀ n, sumI (fun i => ofN (x.testBit i).toNat + ofN (y.testBit i).toNat - 2 * (ofN (x.testBit i).toNat * ofN (y.testBit i).toNat)) n = ofN (popN (x ^^^ y) n)
  | 0 => rfl
  | n + 1 => by
    simp only [sumI, popN, sum_pop x y n, Nat.testBit_xor]
    cases x.testBit n <;> cases y.testBit n <;> simp [ofN]
theorem bitU_eq {w i : Nat} (hw : w < 65536) (hi : i ≤ 16) : bitU (ofN w) i = ofN (w.testBit i).toNat := by
  show IntKind.u8.wrap (bit16 (ofN w) i) = _
  rw [bit16_eq hw hi]
  exact wrap8 (by cases w.testBit i <;> simp [ofN])
theorem xor32 {a b : Nat} (ha : a < 4294967296) (hb : b < 4294967296) : aop (.bits .xor .u32) (ofN a) (ofN b) = ofN (a ^^^ b) := by
  show IntKind.u32.wrap ((BitVec.ofInt 32 (a : Int) ^^^ BitVec.ofInt 32 (b : Int)).toNat : Int) = _
  rw [BitVec.ofInt_natCast, BitVec.ofInt_natCast, BitVec.toNat_xor, BitVec.toNat_ofNat, BitVec.toNat_ofNat, Nat.mod_eq_of_lt (by omega), Nat.mod_eq_of_lt (by omega)]
  exact wrap_inR (by have := Nat.xor_lt_two_pow (n := 32) ha hb; simp [inR, IntKind.min, IntKind.max, IntKind.signed, IntKind.bits]; omega)
theorem and32 {a b : Nat} (ha : a < 4294967296) (hb : b < 4294967296) : aop (.bits .and .u32) (ofN a) (ofN b) = ofN (a &&& b) := by
  show IntKind.u32.wrap ((BitVec.ofInt 32 (a : Int) &&& BitVec.ofInt 32 (b : Int)).toNat : Int) = _
  rw [BitVec.ofInt_natCast, BitVec.ofInt_natCast, BitVec.toNat_and, BitVec.toNat_ofNat, BitVec.toNat_ofNat, Nat.mod_eq_of_lt (by omega), Nat.mod_eq_of_lt (by omega)]
  exact wrap_inR (by have := Nat.lt_of_le_of_lt (Nat.and_le_left (n := a) (m := b)) ha; simp [inR, IntKind.min, IntKind.max, IntKind.signed, IntKind.bits]; omega)
theorem shr32 {a i : Nat} (hi : i ≤ 32) : aop (.shr .u32) (ofN a) (ofN i) = ofN (a / 2 ^ i) := by
  show (ofN a).fdiv (2 ^ (min (ofN i).toNat 32)) = _
  rw [toNat_ofN, Nat.min_eq_left hi]
  simp only [ofN]
  rw [show (2 : Int) ^ i = ((2 ^ i : Nat) : Int) by simp, Int.natCast_ediv, Int.fdiv_eq_ediv_of_nonneg _ (Int.natCast_nonneg _)]
theorem shl32 {i : Nat} (hi : i ≤ 31) : aop (.shl .u32) 1 (ofN i) = ofN (2 ^ i) := by
  show IntKind.u32.wrap (1 * 2 ^ (min (ofN i).toNat 32)) = _
  rw [toNat_ofN, Nat.min_eq_left (by omega), Int.one_mul]
  have h : 2 ^ i ≤ 2147483648 := Nat.pow_le_pow_right (n := 2) (by decide) hi
  rw [show (2 : Int) ^ i = ofN (2 ^ i) by simp [ofN]]
  generalize 2 ^ i = P at h
  exact wrap_inR (by simp only [ofN]; simp [inR, IntKind.min, IntKind.max, IntKind.signed, IntKind.bits]; omega)
def rowN (near : Nat → Bool) (t : Nat) : Nat → Nat
  | 0 => t
  | j + 1 => match near j with | true => rowN near t j ^^^ 2 ^ j | false => rowN near t j
theorem rowN_lt {near : Nat → Bool} {t : Nat} (ht : t < 2147483648) : ∀ {j : Nat}, j ≤ 31 → rowN near t j < 2147483648
  | 0, _ => ht
  | j + 1, h => by
    have ih := rowN_lt (near := near) ht (j := j) (by omega)
    simp only [rowN]
    cases near j
    · exact ih
    · exact Nat.xor_lt_two_pow (n := 31) ih (Nat.pow_lt_pow_right (by decide) (by omega))
theorem rowN_bit (near : Nat → Bool) (t s : Nat) : ∀ j, (rowN near t j).testBit s = (t.testBit s ^^ (decide (s < j) && near s))
  | 0 => by simp [rowN]
  | j + 1 => by
    have ih := rowN_bit near t s j
    simp only [rowN]
    by_cases e : s = j
    · subst e
      cases h : near s <;> simp [h, ih, Nat.testBit_xor, Nat.testBit_two_pow_self]
    · have e2 : (2 ^ j).testBit s = false := by rw [Nat.testBit_two_pow]; simp; omega
      have e3 : decide (s < j + 1) = decide (s < j) := by simp only [decide_eq_decide]; omega
      cases near j <;> simp [ih, Nat.testBit_xor, e2, e3]
theorem rowTo_eq {rc rs lim : Int} {i t : Nat} (ht : t < 2147483648) : ∀ {j : Nat}, j ≤ 31 → rowTo rc rs lim (ofN t) i j = ofN (rowN (nearB rc rs lim i) t j)
  | 0, _ => rfl
  | j + 1, h => by
    have ih := rowTo_eq (rc := rc) (rs := rs) (lim := lim) (i := i) ht (j := j) (by omega)
    have hl := rowN_lt (near := nearB rc rs lim i) ht (j := j) (by omega)
    have hp : 2 ^ j < 4294967296 := Nat.lt_of_lt_of_le (Nat.pow_lt_pow_right (by decide) (show j < 32 by omega)) (Nat.le_refl _)
    simp only [rowTo, rowN]
    cases nearB rc rs lim i j
    · exact ih
    · rw [ih, shl32 (by omega), xor32 (by omega) hp]
theorem bitB_eq {t s : Nat} (ht : t < 4294967296) (hs : s ≤ 31) : bitB (ofN t) (ofN s) = t.testBit s := by
  unfold bitB
  rw [shr32 (by omega), show (1 : Int) = ofN 1 from rfl, and32 (Nat.lt_of_le_of_lt (Nat.div_le_self _ _) ht) (by decide), Nat.and_one_is_mod, Nat.testBit_eq_decide_div_mod_eq]
  have h := Nat.mod_two_eq_zero_or_one (t / 2 ^ s)
  rcases h with h | h <;> rw [h] <;> rfl
theorem xor_of_bits (a n : Bool) : bnot (beqv a (a ^^ n)) = n := by cases a <;> cases n <;> rfl
theorem talk_match {d : DealX} {T : Nat → Nat} (hT : ∀ i, d.t i = ofN (T i)) (hT2 : ∀ i, i < 31 → T i < 2147483648) (hrc : 0 ≤ d.rc ∧ d.rc < 31) (hrs : 0 ≤ d.rs ∧ d.rs < 31) {x y : Nat} (hx : x < 32768) (hy : y < 32768) (lim : Int) :
    tkM d.one (d.snd lim) (ofN x) (ofN y) = decide (ofN (popN (x ^^^ y) 15) ≤ lim) := by
  obtain ⟨A, B, U, rc, rs, t⟩ := d
  dsimp only at hT hrc hrs
  have rC : 0 ≤ tkC (DealX.one ⟨A, B, U, rc, rs, t⟩) (DealX.snd ⟨A, B, U, rc, rs, t⟩ lim) (ofN x) (ofN y) ∧ tkC (DealX.one ⟨A, B, U, rc, rs, t⟩) (DealX.snd ⟨A, B, U, rc, rs, t⟩ lim) (ofN x) (ofN y) < 31 := opOf_range _ _ _
  have rS : 0 ≤ tkS (DealX.one ⟨A, B, U, rc, rs, t⟩) (DealX.snd ⟨A, B, U, rc, rs, t⟩ lim) (ofN x) (ofN y) ∧ tkS (DealX.one ⟨A, B, U, rc, rs, t⟩) (DealX.snd ⟨A, B, U, rc, rs, t⟩ lim) (ofN x) (ofN y) < 31 := opOf_range _ _ _
  obtain ⟨c, hc⟩ : ∃ c : Nat, tkC (DealX.one ⟨A, B, U, rc, rs, t⟩) (DealX.snd ⟨A, B, U, rc, rs, t⟩ lim) (ofN x) (ofN y) = ofN c := ⟨_, ofN_of rC.1⟩
  obtain ⟨s, hs⟩ : ∃ c : Nat, tkS (DealX.one ⟨A, B, U, rc, rs, t⟩) (DealX.snd ⟨A, B, U, rc, rs, t⟩ lim) (ofN x) (ofN y) = ofN c := ⟨_, ofN_of rS.1⟩
  have hc2 : c < 31 := by rw [hc] at rC; simp only [ofN] at rC; omega
  have hs2 : s < 31 := by rw [hs] at rS; simp only [ofN] at rS; omega
  have eL : tkL (DealX.one ⟨A, B, U, rc, rs, t⟩) (DealX.snd ⟨A, B, U, rc, rs, t⟩ lim) (ofN x) (ofN y) = (T c).testBit s := by
    unfold tkL
    rw [hc, hs, toNat_ofN]
    show bitB (t c) (ofN s) = _
    rw [hT, bitB_eq (by have := hT2 c hc2; omega) (by omega)]
  have eR : tkR (DealX.one ⟨A, B, U, rc, rs, t⟩) (DealX.snd ⟨A, B, U, rc, rs, t⟩ lim) (ofN x) (ofN y) = ((T c).testBit s ^^ nearB rc rs lim c s) := by
    unfold tkR
    rw [hc, hs, toNat_ofN]
    show bitB (rowTo rc rs lim (t c) c 31) (ofN s) = _
    rw [hT, rowTo_eq (hT2 c hc2) (Nat.le_refl _), bitB_eq (by have := rowN_lt (near := nearB rc rs lim c) (hT2 c hc2) (Nat.le_refl 31); omega) (by omega), rowN_bit]
    simp [hs2]
  unfold tkM
  rw [eL, eR, xor_of_bits]
  show decide (m31 (m31 (ofN c - rc) + m31 (ofN s - rs)) ≤ lim) = _
  have h1 : ofN c = m31 (countF (bitU (ofN x)) (fun i => opOf 70 (opOf 62 (A i) (opOf 61 (bitU (ofN y) i) (B i))) (U i)) 15 + rc) := hc.symm
  have h2 : ofN s = m31 (countF (bitU (ofN y)) (fun i => opOf 70 (opOf 62 (opOf 61 (bitU (ofN x) i) (A i)) (opOf 70 (B i) (opOf 61 (bitU (ofN y) i) (B i)))) (opOf 61 (opOf 62 (A i) (B i)) (U i))) 15 + rs) := hs.symm
  have h3 := countF_mod (bitU (ofN x)) (fun i => opOf 70 (opOf 62 (A i) (opOf 61 (bitU (ofN y) i) (B i))) (U i)) 15
  have h4 := countF_mod (bitU (ofN y)) (fun i => opOf 70 (opOf 62 (opOf 61 (bitU (ofN x) i) (A i)) (opOf 70 (B i) (opOf 61 (bitU (ofN y) i) (B i)))) (opOf 61 (opOf 62 (A i) (B i)) (U i))) 15
  have h5 := sumI_add (fun i => bitU (ofN x) i - 2 * opOf 70 (opOf 62 (A i) (opOf 61 (bitU (ofN y) i) (B i))) (U i)) (fun i => bitU (ofN y) i - 2 * opOf 70 (opOf 62 (opOf 61 (bitU (ofN x) i) (A i)) (opOf 70 (B i) (opOf 61 (bitU (ofN y) i) (B i)))) (opOf 61 (opOf 62 (A i) (B i)) (U i))) 15
  have h6 := sumI_mod (n := 15) (f := fun i => (bitU (ofN x) i - 2 * opOf 70 (opOf 62 (A i) (opOf 61 (bitU (ofN y) i) (B i))) (U i)) + (bitU (ofN y) i - 2 * opOf 70 (opOf 62 (opOf 61 (bitU (ofN x) i) (A i)) (opOf 70 (B i) (opOf 61 (bitU (ofN y) i) (B i)))) (opOf 61 (opOf 62 (A i) (B i)) (U i))))
    (g := fun i => ofN (x.testBit i).toNat + ofN (y.testBit i).toNat - 2 * (ofN (x.testBit i).toNat * ofN (y.testBit i).toNat)) fun i hi => by
      have := talk_sum (A := A i) (B := B i) (U := U i) (X := bitU (ofN x) i) (Y := bitU (ofN y) i) rfl rfl rfl
      rw [← bitU_eq (w := x) (i := i) (by omega) (by omega), ← bitU_eq (w := y) (i := i) (by omega) (by omega)]
      exact this
  rw [sum_pop] at h6
  have h7 := popN_le (x ^^^ y) 15
  have h8 : m31 (m31 (ofN c - rc) + m31 (ofN s - rs)) = ofN (popN (x ^^^ y) 15) := by
    generalize countF (bitU (ofN x)) (fun i => opOf 70 (opOf 62 (A i) (opOf 61 (bitU (ofN y) i) (B i))) (U i)) 15 = cF at h1 h3
    generalize countF (bitU (ofN y)) (fun i => opOf 70 (opOf 62 (opOf 61 (bitU (ofN x) i) (A i)) (opOf 70 (B i) (opOf 61 (bitU (ofN y) i) (B i)))) (opOf 61 (opOf 62 (A i) (B i)) (U i))) 15 = sF at h2 h4
    rw [h5] at h6
    rw [h1, h2]
    generalize sumI (fun i => bitU (ofN x) i - 2 * opOf 70 (opOf 62 (A i) (opOf 61 (bitU (ofN y) i) (B i))) (U i)) 15 = s1 at h3 h6
    generalize sumI (fun i => bitU (ofN y) i - 2 * opOf 70 (opOf 62 (opOf 61 (bitU (ofN x) i) (A i)) (opOf 70 (B i) (opOf 61 (bitU (ofN y) i) (B i)))) (opOf 61 (opOf 62 (A i) (B i)) (U i))) 15 = s2 at h4 h6
    simp only [m31, ofN] at *
    omega
  rw [h8]
end Go.Proofs.YtlgmbpnlakjefaaDoor
end

section
/- Plain law: what deals need; a hidden word renewed is hidden under the new key; distances stay. -/
namespace Go.Proofs.YtlgmbpnlakjefaaDoor
open Go.Sy
set_option maxRecDepth 100000
set_option maxHeartbeats 1000000
set_option linter.unusedSimpArgs false
set_option linter.unusedVariables false
theorem anyGe_false {m : Int} {n : Nat} {f : Nat → Int} : anyGe m n f = false ↔ ∀ j, j < n → f j < m := by
  unfold anyGe
  rw [List.any_eq_false]
  constructor
  · intro h j hj
    have := h j (List.mem_range.2 hj)
    simp only [decide_eq_true_eq] at this; omega
  · intro h j hj
    have := h j (List.mem_range.1 hj)
    simp only [decide_eq_true_eq]; omega
theorem partyB_true {x : PartyX} : partyB x = true ↔ (∀ j, j < 15 → x.m j < 31) ∧ (∀ j, j < 15 → x.s j < 31) ∧ x.sh < 31 ∧ ∀ j, j < 31 → x.t j < 2147483648 := by
  unfold partyB
  simp only [Bool.and_eq_true, Bool.not_eq_true', anyGe_false, decide_eq_false_iff_not, Int.not_le]
  constructor
  · rintro ⟨⟨⟨h1, h2⟩, h3⟩, h4⟩; exact ⟨h1, h2, h3, h4⟩
  · rintro ⟨h1, h2, h3, h4⟩; exact ⟨⟨⟨h1, h2⟩, h3⟩, h4⟩
/-- what is known of a deal that was read -/
def DealX.got (d : DealX) : Prop := d.wf ∧ ∀ i, 0 ≤ d.t i ∧ d.t i < 4294967296
theorem deal_of_valid {d : DealX} (hv : validDealB d = true) : dealB d = true := by
  unfold validDealB at hv
  simp only [Bool.and_eq_true, Bool.not_eq_true', anyGe_false, decide_eq_true_eq] at hv
  obtain ⟨⟨⟨⟨⟨h1, h2⟩, h3⟩, h4⟩, h5⟩, h6⟩ := hv
  unfold dealB
  rw [Bool.and_eq_true, partyB_true, partyB_true]
  exact ⟨⟨h1, h3, h4, h6⟩, h2, fun j _ => by show (0 : Int) < 31; decide, h5, fun j _ => by show (0 : Int) < 2147483648; decide⟩
theorem least_ok {d : DealX} (hg : d.got) (hd : dealB d = true) {x y : Nat} (hx : x < 32768) (hy : y < 32768) : LeastX.ok ⟨d, ofN x, ofN y, popN (x ^^^ y) 15⟩ := by
  have hd2 := hd
  unfold dealB at hd2
  rw [Bool.and_eq_true, partyB_true, partyB_true] at hd2
  obtain ⟨⟨p1, p2, p3, p4⟩, ⟨q1, q2, q3, q4⟩⟩ := hd2
  obtain ⟨⟨w1, w2, w3, w4, w5⟩, wt⟩ := hg
  have p3 : d.rc < 31 := p3
  have q3 : d.rs < 31 := q3
  have p4 : ∀ j, j < 31 → d.t j < 2147483648 := p4
  have hT : ∀ i, d.t i = ofN (d.t i).toNat := fun i => ofN_of (wt i).1
  have hT2 : ∀ i, i < 31 → (d.t i).toNat < 2147483648 := fun i hi => by have := p4 i hi; have := (wt i).1; omega
  refine ⟨⟨w1, w2, w3, w4, w5⟩, hd, ⟨w1, w3, w4⟩, partyB_true.2 ⟨p1, p2, p3, p4⟩, by simp only [ofN]; omega, by simp only [ofN]; omega, popN_le _ _, fun i hi => ⟨⟨w2, fun j => (show byte (d.v j) from opOf_byte _ _ _), w5⟩, partyB_true.2 ⟨q1, fun j _ => (show d.v j < 31 from (opOf_range _ _ _).2), q3, fun j hj => ?_⟩, ?_⟩⟩
  · show rowTo d.rc d.rs (ofN i) (d.t j) j 31 < 2147483648
    rw [hT j, rowTo_eq (hT2 j hj) (Nat.le_refl _)]
    have := rowN_lt (near := nearB d.rc d.rs (ofN i) j) (hT2 j hj) (Nat.le_refl 31)
    exact ofN_lt (n := 2147483648).2 this
  · show tkM d.one (d.snd (ofN i)) (ofN x) (ofN y) = decide (popN (x ^^^ y) 15 ≤ i)
    rw [talk_match (T := fun i => (d.t i).toNat) hT hT2 ⟨w4.1, p3⟩ ⟨w5.1, q3⟩ hx hy]
    simp only [decide_eq_decide]; exact ofN_le
/-! ### orders and their numbers -/
theorem orderL_nodup : ∀ (k : Nat) (left : List Nat) (p : Nat), left.length = k → p < fact k → left.Nodup → (orderL k left p).Nodup
  | 0, _, _, _, _, _ => List.nodup_nil
  | k + 1, left, p, hl, hp, hn => by
    have hfp := fact_pos k
    have hat : p / fact k < k + 1 := (Nat.div_lt_iff_lt_mul hfp).2 (by rw [Nat.mul_comm]; exact hp)
    have hlt : p / fact k < left.length := by omega
    have hel : (left.eraseIdx (p / fact k)).length = k := by rw [List.length_eraseIdx]; simp [hlt]; omega
    simp only [orderL, List.nodup_cons]
    refine ⟨fun hm => ?_, orderL_nodup k _ _ hel (Nat.mod_lt _ hfp) (hn.sublist (List.eraseIdx_sublist _ _))⟩
    have hm := orderL_mem k _ _ hel (Nat.mod_lt _ hfp) _ hm
    rw [List.getD_eq_getElem?_getD, List.getElem?_eq_getElem hlt, Option.getD_some] at hm
    rw [List.mem_eraseIdx_iff_getElem] at hm
    obtain ⟨j, hj, hne, he⟩ := hm
    exact hne ((List.getElem_inj hn).1 he)
/-- the places of an order -/
def sig (k : KeyX) (i : Nat) : Nat := (orderL k.n (List.range k.n) k.perm.toNat).getD i 0
theorem ordI_get {k : KeyX} {i : Nat} (hi : i < k.n) : (ordI k.n k.perm).getD i 0 = ofN (sig k i) := by
  have hl := orderL_length k.n (List.range k.n) k.perm.toNat
  simp [ordI, nats, sig, List.getD_eq_getElem?_getD, hl, hi]
theorem sig_lt {k : KeyX} (hk : k.ok) {i : Nat} (hi : i < k.n) : sig k i < k.n := by
  have h := ordI_range hk.2.2.2.1 hi
  rw [ordI_get hi] at h
  exact ofN_lt.1 h.2
theorem sig_inj {k : KeyX} (hk : k.ok) {i j : Nat} (hi : i < k.n) (hj : j < k.n) (h : sig k i = sig k j) : i = j := by
  have hl := orderL_length k.n (List.range k.n) k.perm.toNat
  have hn := orderL_nodup k.n (List.range k.n) k.perm.toNat (by simp) hk.2.2.2.1 List.nodup_range
  unfold sig at h
  rw [List.getD_eq_getElem?_getD, List.getD_eq_getElem?_getD, List.getElem?_eq_getElem (by omega), List.getElem?_eq_getElem (by omega)] at h
  exact (List.getElem_inj hn).1 h
end Go.Proofs.YtlgmbpnlakjefaaDoor
end
