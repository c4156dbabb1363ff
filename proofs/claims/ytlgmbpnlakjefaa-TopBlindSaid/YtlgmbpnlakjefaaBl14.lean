/- Contracts: keys renewed; talks played. -/
import Derived.Test.YtlgmbpnlakjefaaBlP
namespace Go.Proofs.Ytlgmbpnlakjefaa
open Go.Sy
set_option maxRecDepth 100000
set_option maxHeartbeats 1000000
set_option linter.unusedSimpArgs false
set_option linter.unusedVariables false
def invCells (k : KeyX) : List AV := [.int .i64 (.t fun _ => ofN k.n), .int .i64 (.t fun _ => ofN (numTo (invL k) k.n)), .int .u16 (.t fun _ => wordTo (pickL (bitsL k.n k.pad) (invL k)) k.n)]
theorem e17 : EnvOk Try.prog (env [(33, cBoth), (35, cInvert), (34, cCompose)]) := envOk_cons (envOk_cons (envOk_cons envOk_nil s34 k34.callable) s35 k35.callable) s33 k33.callable
def renPerm (a b : KeyX) : Int := ofN (numTo (pickL (ordI a.n (ofN (numTo (invL a) a.n))) (ordI a.n b.perm)) a.n)
def renPad (a b : KeyX) : Int := hideI b (wordTo (pickL (bitsL a.n a.pad) (invL a)) a.n)
def cRenew : Con := con (fun x : KeyX × KeyX => [.agg x.1.cells, .agg x.2.cells]) (fun _ => []) (fun x => x.1.ok ∧ x.2.ok ∧ x.1.n = x.2.n)
  (fun x K => K (.tuple [.agg [.int .i64 (.t fun _ => ofN x.1.n), .int .i64 (.t fun _ => renPerm x.1 x.2), .int .u16 (.t fun _ => renPad x.1 x.2)], .int .i64 (.l 0)]) [])
theorem s9 : Sound Try.prog 9 cRenew := by
  refine k9.con tabOk e17 mixed o9 fun x K hl h2 => ?_
  obtain ⟨⟨n, perm, pad⟩, ⟨m, qerm, qad⟩⟩ := x
  have e : n = m := hl.2.2
  subst e
  have ha : KeyX.ok ⟨n, perm, pad⟩ := hl.1
  have hb : KeyX.ok ⟨n, qerm, qad⟩ := hl.2.1
  have hi := inv_ok ha
  cbv
  refine ⟨(⟨n, perm, pad⟩, ⟨n, qerm, qad⟩), hl, Ent.of_wvs ?_, trivial, ?_⟩
  · cbv
    repeat' first | apply And.intro | exact trivial | exact SameI.mk (by with_reducible rfl) | exact SameN.mk (by with_reducible rfl) | exact SameL.mk (by with_reducible rfl) | exact SameB.mk (by with_reducible rfl) | exact LeN.mk (by with_reducible exact Nat.le_refl _) | apply SameI.mk | apply SameN.mk | apply SameL.mk | apply SameB.mk | apply LeN.mk
    all_goals first | rfl | exact (ofN_succ _).symm | (simp only [toNat_ofN, NX.v, IX.v, Nat.le_refl]; done) | ((try simp only [toNat_ofN, NX.v, IX.v, nadd, nsub]); omega) | skip
  cbv
  refine ⟨⟨n, perm, pad⟩, ha, Ent.of_wvs ?_, trivial, ?_⟩
  · cbv
    repeat' first | apply And.intro | exact trivial | exact SameI.mk (by with_reducible rfl) | exact SameN.mk (by with_reducible rfl) | exact SameL.mk (by with_reducible rfl) | exact SameB.mk (by with_reducible rfl) | exact LeN.mk (by with_reducible exact Nat.le_refl _) | apply SameI.mk | apply SameN.mk | apply SameL.mk | apply SameB.mk | apply LeN.mk
    all_goals first | rfl | exact (ofN_succ _).symm | (simp only [toNat_ofN, NX.v, IX.v, Nat.le_refl]; done) | ((try simp only [toNat_ofN, NX.v, IX.v, nadd, nsub]); omega) | skip
  cbv
  obtain ⟨p', hp'⟩ : ∃ p, p = ofN (numTo (invL ⟨n, perm, pad⟩) n) := ⟨_, rfl⟩
  obtain ⟨q', hq'⟩ : ∃ p, p = wordTo (pickL (bitsL n pad) (invL ⟨n, perm, pad⟩)) n := ⟨_, rfl⟩
  refine ⟨(⟨n, p', q'⟩, ⟨n, qerm, qad⟩), ⟨by rw [hp', hq']; exact hi, hb, rfl⟩, Ent.of_wvs ?_, trivial, ?_⟩
  · cbv
    repeat' first | apply And.intro | exact trivial | exact SameI.mk (by with_reducible rfl) | exact SameN.mk (by with_reducible rfl) | exact SameL.mk (by with_reducible rfl) | exact SameB.mk (by with_reducible rfl) | exact LeN.mk (by with_reducible exact Nat.le_refl _) | apply SameI.mk | apply SameN.mk | apply SameL.mk | apply SameB.mk | apply LeN.mk
    all_goals first | rfl | exact (ofN_succ _).symm | (simp only [toNat_ofN, NX.v, IX.v, Nat.le_refl]; done) | ((try simp only [toNat_ofN, NX.v, IX.v, nadd, nsub]); omega) | skip
  cbv
  repeat'
    first
    | refine And.intro ?_ ?_
    | (refine Chk.mk (arrOf_length _ _) ?_; cbv)
    | (refine Chk.mk (rowsOf_length _ _ _) ?_; cbv)
    | fail
  all_goals
    refine .mk _ _ h2 ?_ ?_
    all_goals cbv
    all_goals repeat' first | apply And.intro | exact trivial | exact SameI.mk (by with_reducible rfl) | exact SameN.mk (by with_reducible rfl) | exact SameL.mk (by with_reducible rfl) | exact SameB.mk (by with_reducible rfl) | exact LeN.mk (by with_reducible exact Nat.le_refl _) | apply SameI.mk | apply SameN.mk | apply SameL.mk | apply SameB.mk | apply LeN.mk
    all_goals first | rfl | exact (ofN_succ _).symm | (simp only [toNat_ofN, NX.v, IX.v, Nat.le_refl]; done) | ((try simp only [toNat_ofN, NX.v, IX.v, nadd, nsub]); omega) | skip
    all_goals (subst hp' hq'; rfl)
/-! ### Show -/
theorem e18 : EnvOk Try.prog (env [(31, cCheck2), (35, cInvert), (32, cHide0)]) := envOk_cons (envOk_cons (envOk_cons envOk_nil s32 k32.callable) s35 k35.callable) s31 k31.callable
def showI (k : KeyX) (w : Int) : Int := hideI (invI k) w
def cShow : Con := con (fun x : KeyX × Int => [.agg x.1.cells, .int .u16 (.t fun _ => x.2)]) (fun _ => []) (fun x => x.1.ok ∧ 0 ≤ x.2 ∧ x.2 < ofN (2 ^ x.1.n)) (fun x K => K (.tuple [.int .u16 (.t fun _ => showI x.1 x.2), .int .i64 (.l 0)]) [])
theorem s25 : Sound Try.prog 25 cShow := by
  refine k25.con tabOk e18 mixed o25 fun x K hl h2 => ?_
  obtain ⟨⟨n, perm, pad⟩, w⟩ := x
  have ha : KeyX.ok ⟨n, perm, pad⟩ := hl.1
  have hi := inv_ok ha
  cbv
  refine ⟨(⟨n, perm, pad⟩, w), hl, Ent.of_wvs ?_, trivial, ?_⟩
  · cbv
    repeat' first | apply And.intro | exact trivial | exact SameI.mk (by with_reducible rfl) | exact SameN.mk (by with_reducible rfl) | exact SameL.mk (by with_reducible rfl) | exact SameB.mk (by with_reducible rfl) | exact LeN.mk (by with_reducible exact Nat.le_refl _) | apply SameI.mk | apply SameN.mk | apply SameL.mk | apply SameB.mk | apply LeN.mk
    all_goals first | rfl | exact (ofN_succ _).symm | (simp only [toNat_ofN, NX.v, IX.v, Nat.le_refl]; done) | ((try simp only [toNat_ofN, NX.v, IX.v, nadd, nsub]); omega) | skip
  cbv
  refine ⟨⟨n, perm, pad⟩, ha, Ent.of_wvs ?_, trivial, ?_⟩
  · cbv
    repeat' first | apply And.intro | exact trivial | exact SameI.mk (by with_reducible rfl) | exact SameN.mk (by with_reducible rfl) | exact SameL.mk (by with_reducible rfl) | exact SameB.mk (by with_reducible rfl) | exact LeN.mk (by with_reducible exact Nat.le_refl _) | apply SameI.mk | apply SameN.mk | apply SameL.mk | apply SameB.mk | apply LeN.mk
    all_goals first | rfl | exact (ofN_succ _).symm | (simp only [toNat_ofN, NX.v, IX.v, Nat.le_refl]; done) | ((try simp only [toNat_ofN, NX.v, IX.v, nadd, nsub]); omega) | skip
  cbv
  obtain ⟨p', hp'⟩ : ∃ p, p = ofN (numTo (invL ⟨n, perm, pad⟩) n) := ⟨_, rfl⟩
  obtain ⟨q', hq'⟩ : ∃ p, p = wordTo (pickL (bitsL n pad) (invL ⟨n, perm, pad⟩)) n := ⟨_, rfl⟩
  refine ⟨(⟨n, p', q'⟩, w), (by rw [hp', hq']; exact hi), Ent.of_wvs ?_, trivial, ?_⟩
  · cbv
    repeat' first | apply And.intro | exact trivial | exact SameI.mk (by with_reducible rfl) | exact SameN.mk (by with_reducible rfl) | exact SameL.mk (by with_reducible rfl) | exact SameB.mk (by with_reducible rfl) | exact LeN.mk (by with_reducible exact Nat.le_refl _) | apply SameI.mk | apply SameN.mk | apply SameL.mk | apply SameB.mk | apply LeN.mk
    all_goals first | rfl | exact (ofN_succ _).symm | (simp only [toNat_ofN, NX.v, IX.v, Nat.le_refl]; done) | ((try simp only [toNat_ofN, NX.v, IX.v, nadd, nsub]); omega) | skip
  cbv
  refine .mk _ _ h2 ?_ ?_
  all_goals cbv
  all_goals repeat' first | apply And.intro | exact trivial | exact SameI.mk (by with_reducible rfl) | exact SameN.mk (by with_reducible rfl) | exact SameL.mk (by with_reducible rfl) | exact SameB.mk (by with_reducible rfl) | exact LeN.mk (by with_reducible exact Nat.le_refl _) | apply SameI.mk | apply SameN.mk | apply SameL.mk | apply SameB.mk | apply LeN.mk
  all_goals first | rfl | exact (ofN_succ _).symm | (simp only [toNat_ofN, NX.v, IX.v, Nat.le_refl]; done) | ((try simp only [toNat_ofN, NX.v, IX.v, nadd, nsub]); omega) | skip
  all_goals (subst hp' hq'; rfl)
/-! ### Play -/
theorem e19 : EnvOk Try.prog (env [(74, cParty), (75, cPlay0)]) := envOk_cons (envOk_cons envOk_nil s75 k75.callable) s74 k74.callable
def cPlay : Con := con (fun x : PartyX × PartyX × Int × Int => [.agg x.1.cells, .agg x.2.1.cells, .int .u16 (.t fun _ => x.2.2.1), .int .u16 (.t fun _ => x.2.2.2)]) (fun _ => [])
  (fun x => x.1.wf ∧ x.2.1.wf ∧ partyB x.1 = true ∧ partyB x.2.1 = true ∧ x.2.2.1 < 32768 ∧ x.2.2.2 < 32768)
  (fun x K => K (.tuple [.agg (talkCells x.1 x.2.1 x.2.2.1 x.2.2.2), .int .i64 (.l 0)]) [])
theorem s37 : Sound Try.prog 37 cPlay := by
  refine k37.con tabOk e19 mixed o37 fun x K hl h2 => ?_
  obtain ⟨⟨A, U, sh1, t1⟩, ⟨B, V, sh2, t2⟩, x, y⟩ := x
  have hp : partyB ⟨A, U, sh1, t1⟩ = true := hl.2.2.1
  have hq : partyB ⟨B, V, sh2, t2⟩ = true := hl.2.2.2.1
  have hx : x < 32768 := hl.2.2.2.2.1
  have hy : y < 32768 := hl.2.2.2.2.2
  cbv
  refine ⟨⟨A, U, sh1, t1⟩, trivial, Ent.of_wvs ?_, trivial, ?_⟩
  · cbv
    repeat' first | apply And.intro | exact trivial | exact SameI.mk (by with_reducible rfl) | exact SameN.mk (by with_reducible rfl) | exact SameL.mk (by with_reducible rfl) | exact SameB.mk (by with_reducible rfl) | exact LeN.mk (by with_reducible exact Nat.le_refl _) | apply SameI.mk | apply SameN.mk | apply SameL.mk | apply SameB.mk | apply LeN.mk
    all_goals first | rfl | exact (ofN_succ _).symm | (simp only [toNat_ofN, NX.v, IX.v, Nat.le_refl]; done) | ((try simp only [toNat_ofN, NX.v, IX.v, nadd, nsub]); omega) | skip
  cbv
  refine Br.f (fun b => ?_) (fun b => ?_)
  · rw [hp] at b; cases b
  cbv
  refine ⟨⟨B, V, sh2, t2⟩, trivial, Ent.of_wvs ?_, trivial, ?_⟩
  · cbv
    repeat' first | apply And.intro | exact trivial | exact SameI.mk (by with_reducible rfl) | exact SameN.mk (by with_reducible rfl) | exact SameL.mk (by with_reducible rfl) | exact SameB.mk (by with_reducible rfl) | exact LeN.mk (by with_reducible exact Nat.le_refl _) | apply SameI.mk | apply SameN.mk | apply SameL.mk | apply SameB.mk | apply LeN.mk
    all_goals first | rfl | exact (ofN_succ _).symm | (simp only [toNat_ofN, NX.v, IX.v, Nat.le_refl]; done) | ((try simp only [toNat_ofN, NX.v, IX.v, nadd, nsub]); omega) | skip
  cbv
  refine Br.f (fun b => ?_) (fun b => ?_)
  · rw [hq] at b; cases b
  cbv
  refine Br.f (fun b => ?_) (fun b => ?_)
  · have h : 32768 ≤ mm true x y := ge_t.1 b
    simp only [mm] at h
    split at h <;> omega
  cbv
  refine ⟨(⟨A, U, sh1, t1⟩, ⟨B, V, sh2, t2⟩, x, y), ⟨hl.1, hl.2.1⟩, Ent.of_wvs ?_, trivial, ?_⟩
  · cbv
    repeat' first | apply And.intro | exact trivial | exact SameI.mk (by with_reducible rfl) | exact SameN.mk (by with_reducible rfl) | exact SameL.mk (by with_reducible rfl) | exact SameB.mk (by with_reducible rfl) | exact LeN.mk (by with_reducible exact Nat.le_refl _) | apply SameI.mk | apply SameN.mk | apply SameL.mk | apply SameB.mk | apply LeN.mk
    all_goals first | rfl | exact (ofN_succ _).symm | (simp only [toNat_ofN, NX.v, IX.v, Nat.le_refl]; done) | ((try simp only [toNat_ofN, NX.v, IX.v, nadd, nsub]); omega) | skip
  cbv
  refine .mk _ _ h2 ?_ ?_
  all_goals cbv
  all_goals repeat' first | apply And.intro | exact trivial | exact SameI.mk (by with_reducible rfl) | exact SameN.mk (by with_reducible rfl) | exact SameL.mk (by with_reducible rfl) | exact SameB.mk (by with_reducible rfl) | exact LeN.mk (by with_reducible exact Nat.le_refl _) | apply SameI.mk | apply SameN.mk | apply SameL.mk | apply SameB.mk | apply LeN.mk
  all_goals first | rfl | exact (ofN_succ _).symm | (simp only [toNat_ofN, NX.v, IX.v, Nat.le_refl]; done) | ((try simp only [toNat_ofN, NX.v, IX.v, nadd, nsub]); omega) | skip
end Go.Proofs.Ytlgmbpnlakjefaa
