/- Contracts: words hidden; keys checked, undone, joined. -/
import Derived.Test.YtlgmbpnlakjefaaBl12
namespace Go.Proofs.Ytlgmbpnlakjefaa
open Go.Sy
set_option maxRecDepth 100000
set_option maxHeartbeats 1000000
set_option linter.unusedSimpArgs false
set_option linter.unusedVariables false
theorem _root_.Go.Sy.Br.f {b : Unit → Bool} {K L : Unit → Prop} (h1 : b () = true → False) (h2 : b () = false → L ()) : Br b K L := .mk (fun h => (h1 h).elim) h2
theorem _root_.Go.Sy.Br.t {b : Unit → Bool} {K L : Unit → Prop} (h1 : b () = true → K ()) (h2 : b () = false → False) : Br b K L := .mk h1 fun h => (h2 h).elim
structure KeyX where
  n : Nat
  perm : Int
  pad : Int
def KeyX.cells (k : KeyX) : List AV := [.int .i64 (.t fun _ => ofN k.n), .int .i64 (.t fun _ => k.perm), .int .u16 (.t fun _ => k.pad)]
def KeyX.ok (k : KeyX) : Prop := 1 ≤ k.n ∧ k.n ≤ 15 ∧ 0 ≤ k.perm ∧ k.perm.toNat < fact k.n ∧ 0 ≤ k.pad ∧ k.pad < ofN (2 ^ k.n)
theorem pow_le15 {n : Nat} (h : n ≤ 15) : 1 ≤ 2 ^ n ∧ 2 ^ n ≤ 32768 := by
  refine ⟨Nat.one_le_two_pow, ?_⟩
  have := Nat.pow_le_pow_right (show 0 < 2 by decide) h
  omega
theorem shl1 {n : Nat} (h : n ≤ 15) : aop (.shl .i64) 1 (ofN n) = ofN (2 ^ n) := by
  show IntKind.i64.wrap (1 * 2 ^ (min (ofN n).toNat IntKind.i64.bits)) = ofN (2 ^ n)
  rw [toNat_ofN, show IntKind.i64.bits = 64 from rfl, Nat.min_eq_left (by omega), Int.one_mul]
  have h2 := pow_le15 h
  have e : (2 : Int) ^ n = ofN (2 ^ n) := by simp only [ofN]; rw [Int.natCast_pow]; rfl
  rw [e]
  exact wrap64 (by simp only [ofN]; omega)
theorem fact_le15 {n : Nat} (h : n ≤ 15) : fact n ≤ 1307674368000 := Nat.le_trans (fact_le n 15 h) (by decide)
/-! ### Check -/
def cCheck : Con := con (fun k : KeyX => [.agg k.cells]) (fun _ => []) KeyX.ok (fun k K => K (.int .i64 (.l 0)) [])
theorem e11 : EnvOk Try.prog (env [(101, cFact)]) := envOk_cons envOk_nil s101 k101.callable
theorem s64 : Sound Try.prog 64 cCheck := by
  refine k64.con tabOk e11 mixed o64 fun x K hl h2 => ?_
  obtain ⟨n, perm, pad⟩ := x
  have hk : KeyX.ok ⟨n, perm, pad⟩ := hl
  have a1 : 1 ≤ n := hk.1
  have a2 : n ≤ 15 := hk.2.1
  have a3 : 0 ≤ perm := hk.2.2.1
  have a4 : perm.toNat < fact n := hk.2.2.2.1
  have a5 : 0 ≤ pad := hk.2.2.2.2.1
  have a6 : pad < ofN (2 ^ n) := hk.2.2.2.2.2
  have hp := pow_le15 a2
  have hf := fact_le15 a2
  have s1 := shl1 a2
  have s2 := ofN_nonneg n
  cbv
  clear hk hl
  generalize hF : fact n = F at a4 hf
  generalize hP : 2 ^ n = P at a6 hp s1
  refine Br.f (fun b1 => ?_) (fun b1 => ?_)
  · have this : ofN n < 1 := lt_t.1 b1
    simp only [ofN] at this; omega
  cbv
  refine Br.f (fun b2 => ?_) (fun b2 => ?_)
  · have this : 15 < ofN n := gt_t.1 b2
    simp only [ofN] at this; omega
  cbv
  refine Br.f (fun b3 => ?_) (fun b3 => ?_)
  · have this : perm < 0 := lt_t.1 b3
    omega
  cbv
  refine Chk.mk (by (try simp only [NX.v, IX.v, nadd, nsub, nmul, aop_add, aop_sub, aop_mul, toNat_ofN, ints_length, List.length_append, List.length_take, List.length_drop, List.length_replicate, List.length_cons, List.length_nil, List.length_map, maxBytes]); (try simp only [ofN]); omega) ?_
  cbv
  refine Br.f (fun b4 => ?_) (fun b4 => ?_)
  · have h : ofN (fact (ofN n).toNat) ≤ perm := ge_t.1 b4
    rw [toNat_ofN, hF] at h; simp only [ofN] at h; omega
  cbv
  refine Chk.mk (s2) ?_
  cbv
  refine Br.f (fun b5 => ?_) (fun b5 => ?_)
  · have h : aop (.shl .i64) 1 (ofN n) ≤ IntKind.i64.wrap pad := ge_t.1 b5
    simp only [ofN] at a6; rw [s1, wrap64 (by omega)] at h; simp only [ofN] at h; omega
  cbv
  refine .mk _ _ h2 ?_ ?_
  all_goals cbv
  all_goals repeat' first | apply And.intro | exact trivial | exact SameI.mk (by with_reducible rfl) | exact SameN.mk (by with_reducible rfl) | exact SameL.mk (by with_reducible rfl) | exact SameB.mk (by with_reducible rfl) | exact LeN.mk (by with_reducible exact Nat.le_refl _) | apply SameI.mk | apply SameN.mk | apply SameL.mk | apply SameB.mk | apply LeN.mk
  all_goals first | rfl | exact (ofN_succ _).symm | (simp only [toNat_ofN, NX.v, IX.v, Nat.le_refl]; done) | ((try simp only [toNat_ofN, NX.v, IX.v, nadd, nsub]); omega) | skip
/-! ### check -/
def cCheck2 : Con := con (fun x : KeyX × Int => [.agg x.1.cells, .int .u16 (.t fun _ => x.2)]) (fun _ => []) (fun x => x.1.ok ∧ 0 ≤ x.2 ∧ x.2 < ofN (2 ^ x.1.n)) (fun k K => K (.int .i64 (.l 0)) [])
theorem e12 : EnvOk Try.prog (env [(64, cCheck)]) := envOk_cons envOk_nil s64 k64.callable
theorem s31 : Sound Try.prog 31 cCheck2 := by
  refine k31.con tabOk e12 mixed o31 fun x K hl h2 => ?_
  obtain ⟨⟨n, perm, pad⟩, w⟩ := x
  have hk : KeyX.ok ⟨n, perm, pad⟩ := hl.1
  have h0 : 0 ≤ w := hl.2.1
  have h1 : w < ofN (2 ^ n) := hl.2.2
  have a2 : n ≤ 15 := hk.2.1
  have hp := pow_le15 a2
  have s1 := shl1 a2
  have s2 := ofN_nonneg n
  cbv
  refine ⟨⟨n, perm, pad⟩, hk, Ent.of_wvs ?_, trivial, ?_⟩
  · cbv
    repeat' first | apply And.intro | exact trivial | exact SameI.mk (by with_reducible rfl) | exact SameN.mk (by with_reducible rfl) | exact SameL.mk (by with_reducible rfl) | exact SameB.mk (by with_reducible rfl) | exact LeN.mk (by with_reducible exact Nat.le_refl _) | apply SameI.mk | apply SameN.mk | apply SameL.mk | apply SameB.mk | apply LeN.mk
    all_goals first | rfl | exact (ofN_succ _).symm | (simp only [toNat_ofN, NX.v, IX.v, Nat.le_refl]; done) | ((try simp only [toNat_ofN, NX.v, IX.v, nadd, nsub]); omega) | skip
  cbv
  refine Chk.mk (s2) ?_
  cbv
  clear hk hl
  generalize hP : 2 ^ n = P at h1 hp s1
  refine Br.f (fun b5 => ?_) (fun b5 => ?_)
  · have h : aop (.shl .i64) 1 (ofN n) ≤ IntKind.i64.wrap w := ge_t.1 b5
    simp only [ofN] at h1; rw [s1, wrap64 (by omega)] at h; simp only [ofN] at h; omega
  cbv
  refine .mk _ _ h2 ?_ ?_
  all_goals cbv
  all_goals repeat' first | apply And.intro | exact trivial | exact SameI.mk (by with_reducible rfl) | exact SameN.mk (by with_reducible rfl) | exact SameL.mk (by with_reducible rfl) | exact SameB.mk (by with_reducible rfl) | exact LeN.mk (by with_reducible exact Nat.le_refl _) | apply SameI.mk | apply SameN.mk | apply SameL.mk | apply SameB.mk | apply LeN.mk
  all_goals first | rfl | exact (ofN_succ _).symm | (simp only [toNat_ofN, NX.v, IX.v, Nat.le_refl]; done) | ((try simp only [toNat_ofN, NX.v, IX.v, nadd, nsub]); omega) | skip
/-! ### hide -/
theorem orderL_mem : ∀ (k : Nat) (left : List Nat) (p : Nat), left.length = k → p < fact k → ∀ v ∈ orderL k left p, v ∈ left
  | 0, _, _, _, _, v, hv => by simp [orderL] at hv
  | k + 1, left, p, hl, hp, v, hv => by
    have hfp := fact_pos k
    have hat : p / fact k < k + 1 := (Nat.div_lt_iff_lt_mul hfp).2 (by rw [Nat.mul_comm]; exact hp)
    simp only [orderL, List.mem_cons] at hv
    rcases hv with rfl | hv
    · rw [List.getD_eq_getElem?_getD, List.getElem?_eq_getElem (by omega)]
      exact List.getElem_mem _
    · exact List.mem_of_mem_eraseIdx (orderL_mem k _ _ (by rw [List.length_eraseIdx]; simp [show p / fact k < left.length from by omega]; omega) (Nat.mod_lt _ hfp) v hv)
theorem ordI_length (n : Nat) (p : Int) : (ordI n p).length = n := by simp [ordI, nats_length, orderL_length]
theorem ordI_range {n : Nat} {p : Int} (hp : p.toNat < fact n) {i : Nat} (hi : i < n) : 0 ≤ (ordI n p).getD i 0 ∧ (ordI n p).getD i 0 < ofN n := by
  have hl := orderL_length n (List.range n) p.toNat
  have hm := orderL_mem n (List.range n) p.toNat (by simp) hp ((orderL n (List.range n) p.toNat)[i]'(by omega)) (List.getElem_mem _)
  rw [List.mem_range] at hm
  have e : (ordI n p).getD i 0 = ofN ((orderL n (List.range n) p.toNat)[i]'(by omega)) := by
    simp [ordI, nats, List.getD_eq_getElem?_getD, hl, hi]
  rw [e]
  simp only [ofN]
  omega
theorem bitsL_length (n : Nat) (w : Int) : (bitsL n w).length = n := bitsTo_length _ _ _
theorem pickL_length (l o : List Int) : (pickL l o).length = o.length := fillTo_length _ _ _
def hideI (k : KeyX) (w : Int) : Int := aop (.bits .xor .u16) (wordTo (pickL (bitsL k.n w) (ordI k.n k.perm)) k.n) k.pad
def cHide0 : Con := con (fun x : KeyX × Int => [.agg x.1.cells, .int .u16 (.t fun _ => x.2)]) (fun _ => []) (fun x => x.1.ok) (fun x K => K (.int .u16 (.t fun _ => hideI x.1 x.2)) [])
theorem e13 : EnvOk Try.prog (env [(67, cBits), (68, cOrder), (66, cPick .u16), (65, cWord)]) :=
  envOk_cons (envOk_cons (envOk_cons (envOk_cons envOk_nil s65 k65.callable) s66 k66.callable) s68 k68.callable) s67 k67.callable
theorem s32 : Sound Try.prog 32 cHide0 := by
  refine k32.con tabOk e13 mixed o32 fun x K hl h2 => ?_
  obtain ⟨⟨n, perm, pad⟩, w⟩ := x
  have hk : KeyX.ok ⟨n, perm, pad⟩ := hl
  have a1 : 1 ≤ n := hk.1
  have a2 : n ≤ 15 := hk.2.1
  have a3 : 0 ≤ perm := hk.2.2.1
  have a4 : perm.toNat < fact n := hk.2.2.2.1
  have a5 : 0 ≤ pad := hk.2.2.2.2.1
  have a6 : pad < ofN (2 ^ n) := hk.2.2.2.2.2
  cbv
  refine ⟨(n, w), Nat.le_trans a2 (by decide), Ent.of_wvs ?_, trivial, ?_⟩
  · cbv
    repeat' first | apply And.intro | exact trivial | exact SameI.mk (by with_reducible rfl) | exact SameN.mk (by with_reducible rfl) | exact SameL.mk (by with_reducible rfl) | exact SameB.mk (by with_reducible rfl) | exact LeN.mk (by with_reducible exact Nat.le_refl _) | apply SameI.mk | apply SameN.mk | apply SameL.mk | apply SameB.mk | apply LeN.mk
    all_goals first | rfl | exact (ofN_succ _).symm | (simp only [toNat_ofN, NX.v, IX.v, Nat.le_refl]; done) | ((try simp only [toNat_ofN, NX.v, IX.v, nadd, nsub]); omega) | skip
  cbv
  refine ⟨(n, perm, pad), ⟨a1, a2, a3, a4⟩, Ent.of_wvs ?_, trivial, ?_⟩
  · cbv
    repeat' first | apply And.intro | exact trivial | exact SameI.mk (by with_reducible rfl) | exact SameN.mk (by with_reducible rfl) | exact SameL.mk (by with_reducible rfl) | exact SameB.mk (by with_reducible rfl) | exact LeN.mk (by with_reducible exact Nat.le_refl _) | apply SameI.mk | apply SameN.mk | apply SameL.mk | apply SameB.mk | apply LeN.mk
    all_goals first | rfl | exact (ofN_succ _).symm | (simp only [toNat_ofN, NX.v, IX.v, Nat.le_refl]; done) | ((try simp only [toNat_ofN, NX.v, IX.v, nadd, nsub]); omega) | skip
  cbv
  refine ⟨(bitsL n w, ordI n perm), ?_, Ent.of_wvs ?_, ?_, ?_⟩
  · dsimp only
    rw [ordI_length, bitsL_length]
    exact ⟨Nat.le_trans a2 (by decide), fun i hi => ordI_range a4 hi⟩
  · cbv
    repeat' first | apply And.intro | exact trivial | exact SameI.mk (by with_reducible rfl) | exact SameN.mk (by with_reducible rfl) | exact SameL.mk (by with_reducible rfl) | exact SameB.mk (by with_reducible rfl) | exact LeN.mk (by with_reducible exact Nat.le_refl _) | apply SameI.mk | apply SameN.mk | apply SameL.mk | apply SameB.mk | apply LeN.mk
    all_goals first | rfl | exact (ofN_succ _).symm | (simp only [toNat_ofN, NX.v, IX.v, Nat.le_refl]; done) | ((try simp only [toNat_ofN, NX.v, IX.v, nadd, nsub]); omega) | skip
    all_goals simp only [NX.v, bitsL_length, ordI_length, Nat.le_refl]
  · cbv
    repeat' first | apply And.intro | exact trivial | exact SameI.mk (by with_reducible rfl) | exact SameN.mk (by with_reducible rfl) | exact SameL.mk (by with_reducible rfl) | exact SameB.mk (by with_reducible rfl) | exact LeN.mk (by with_reducible exact Nat.le_refl _) | apply SameI.mk | apply SameN.mk | apply SameL.mk | apply SameB.mk | apply LeN.mk
    all_goals first | rfl | exact (ofN_succ _).symm | (simp only [toNat_ofN, NX.v, IX.v, Nat.le_refl]; done) | ((try simp only [toNat_ofN, NX.v, IX.v, nadd, nsub]); omega) | skip
  cbv
  refine ⟨pickL (bitsL n w) (ordI n perm), ?_, Ent.of_wvs ?_, ?_, ?_⟩
  · rw [pickL_length, ordI_length]; exact Nat.le_trans a2 (by decide)
  · cbv
    repeat' first | apply And.intro | exact trivial | exact SameI.mk (by with_reducible rfl) | exact SameN.mk (by with_reducible rfl) | exact SameL.mk (by with_reducible rfl) | exact SameB.mk (by with_reducible rfl) | exact LeN.mk (by with_reducible exact Nat.le_refl _) | apply SameI.mk | apply SameN.mk | apply SameL.mk | apply SameB.mk | apply LeN.mk
    all_goals first | rfl | exact (ofN_succ _).symm | (simp only [toNat_ofN, NX.v, IX.v, Nat.le_refl]; done) | ((try simp only [toNat_ofN, NX.v, IX.v, nadd, nsub]); omega) | skip
    all_goals simp only [NX.v, pickL_length, ordI_length, Nat.le_refl]
  · cbv
    repeat' first | apply And.intro | exact trivial | exact SameI.mk (by with_reducible rfl) | exact SameN.mk (by with_reducible rfl) | exact SameL.mk (by with_reducible rfl) | exact SameB.mk (by with_reducible rfl) | exact LeN.mk (by with_reducible exact Nat.le_refl _) | apply SameI.mk | apply SameN.mk | apply SameL.mk | apply SameB.mk | apply LeN.mk
    all_goals first | rfl | exact (ofN_succ _).symm | (simp only [toNat_ofN, NX.v, IX.v, Nat.le_refl]; done) | ((try simp only [toNat_ofN, NX.v, IX.v, nadd, nsub]); omega) | skip
  cbv
  refine .mk _ _ h2 ?_ ?_
  all_goals cbv
  all_goals repeat' first | apply And.intro | exact trivial | exact SameI.mk (by with_reducible rfl) | exact SameN.mk (by with_reducible rfl) | exact SameL.mk (by with_reducible rfl) | exact SameB.mk (by with_reducible rfl) | exact LeN.mk (by with_reducible exact Nat.le_refl _) | apply SameI.mk | apply SameN.mk | apply SameL.mk | apply SameB.mk | apply LeN.mk
  all_goals first | rfl | exact (ofN_succ _).symm | (simp only [toNat_ofN, NX.v, IX.v, Nat.le_refl]; done) | ((try simp only [toNat_ofN, NX.v, IX.v, nadd, nsub]); omega) | skip
  show aop (.bits .xor .u16) (wordTo (pickL (bitsL n w) (ordI n perm)) (pickL (bitsL n w) (ordI n perm)).length) pad = hideI ⟨n, perm, pad⟩ w
  rw [pickL_length, ordI_length]; rfl
/-! ### Hide -/
def cHide : Con := con (fun x : KeyX × Int => [.agg x.1.cells, .int .u16 (.t fun _ => x.2)]) (fun _ => []) (fun x => x.1.ok ∧ 0 ≤ x.2 ∧ x.2 < ofN (2 ^ x.1.n)) (fun x K => K (.tuple [.int .u16 (.t fun _ => hideI x.1 x.2), .int .i64 (.l 0)]) [])
theorem e14 : EnvOk Try.prog (env [(31, cCheck2), (32, cHide0)]) := envOk_cons (envOk_cons envOk_nil s32 k32.callable) s31 k31.callable
theorem s8 : Sound Try.prog 8 cHide := by
  refine k8.con tabOk e14 mixed o8 fun x K hl h2 => ?_
  obtain ⟨⟨n, perm, pad⟩, w⟩ := x
  cbv
  refine ⟨(⟨n, perm, pad⟩, w), hl, Ent.of_wvs ?_, trivial, ?_⟩
  · cbv
    repeat' first | apply And.intro | exact trivial | exact SameI.mk (by with_reducible rfl) | exact SameN.mk (by with_reducible rfl) | exact SameL.mk (by with_reducible rfl) | exact SameB.mk (by with_reducible rfl) | exact LeN.mk (by with_reducible exact Nat.le_refl _) | apply SameI.mk | apply SameN.mk | apply SameL.mk | apply SameB.mk | apply LeN.mk
    all_goals first | rfl | exact (ofN_succ _).symm | (simp only [toNat_ofN, NX.v, IX.v, Nat.le_refl]; done) | ((try simp only [toNat_ofN, NX.v, IX.v, nadd, nsub]); omega) | skip
  cbv
  refine ⟨(⟨n, perm, pad⟩, w), hl.1, Ent.of_wvs ?_, trivial, ?_⟩
  · cbv
    repeat' first | apply And.intro | exact trivial | exact SameI.mk (by with_reducible rfl) | exact SameN.mk (by with_reducible rfl) | exact SameL.mk (by with_reducible rfl) | exact SameB.mk (by with_reducible rfl) | exact LeN.mk (by with_reducible exact Nat.le_refl _) | apply SameI.mk | apply SameN.mk | apply SameL.mk | apply SameB.mk | apply LeN.mk
    all_goals first | rfl | exact (ofN_succ _).symm | (simp only [toNat_ofN, NX.v, IX.v, Nat.le_refl]; done) | ((try simp only [toNat_ofN, NX.v, IX.v, nadd, nsub]); omega) | skip
  cbv
  refine .mk _ _ h2 ?_ ?_
  all_goals cbv
  all_goals repeat' first | apply And.intro | exact trivial | exact SameI.mk (by with_reducible rfl) | exact SameN.mk (by with_reducible rfl) | exact SameL.mk (by with_reducible rfl) | exact SameB.mk (by with_reducible rfl) | exact LeN.mk (by with_reducible exact Nat.le_refl _) | apply SameI.mk | apply SameN.mk | apply SameL.mk | apply SameB.mk | apply LeN.mk
  all_goals first | rfl | exact (ofN_succ _).symm | (simp only [toNat_ofN, NX.v, IX.v, Nat.le_refl]; done) | ((try simp only [toNat_ofN, NX.v, IX.v, nadd, nsub]); omega) | skip
/-! ### two keys -/
def cBoth : Con := con (fun x : KeyX × KeyX => [.agg x.1.cells, .agg x.2.cells]) (fun _ => []) (fun x => x.1.ok ∧ x.2.ok ∧ x.1.n = x.2.n) (fun x K => K (.int .i64 (.l 0)) [])
theorem s33 : Sound Try.prog 33 cBoth := by
  refine k33.con tabOk e12 mixed o33 fun x K hl h2 => ?_
  obtain ⟨⟨n, perm, pad⟩, ⟨m, qerm, qad⟩⟩ := x
  have e : n = m := hl.2.2
  subst e
  cbv
  refine ⟨⟨n, perm, pad⟩, hl.1, Ent.of_wvs ?_, trivial, ?_⟩
  · cbv
    repeat' first | apply And.intro | exact trivial | exact SameI.mk (by with_reducible rfl) | exact SameN.mk (by with_reducible rfl) | exact SameL.mk (by with_reducible rfl) | exact SameB.mk (by with_reducible rfl) | exact LeN.mk (by with_reducible exact Nat.le_refl _) | apply SameI.mk | apply SameN.mk | apply SameL.mk | apply SameB.mk | apply LeN.mk
    all_goals first | rfl | exact (ofN_succ _).symm | (simp only [toNat_ofN, NX.v, IX.v, Nat.le_refl]; done) | ((try simp only [toNat_ofN, NX.v, IX.v, nadd, nsub]); omega) | skip
  cbv
  refine ⟨⟨n, qerm, qad⟩, hl.2.1, Ent.of_wvs ?_, trivial, ?_⟩
  · cbv
    repeat' first | apply And.intro | exact trivial | exact SameI.mk (by with_reducible rfl) | exact SameN.mk (by with_reducible rfl) | exact SameL.mk (by with_reducible rfl) | exact SameB.mk (by with_reducible rfl) | exact LeN.mk (by with_reducible exact Nat.le_refl _) | apply SameI.mk | apply SameN.mk | apply SameL.mk | apply SameB.mk | apply LeN.mk
    all_goals first | rfl | exact (ofN_succ _).symm | (simp only [toNat_ofN, NX.v, IX.v, Nat.le_refl]; done) | ((try simp only [toNat_ofN, NX.v, IX.v, nadd, nsub]); omega) | skip
  cbv
  refine Br.f (fun b => ?_) (fun b => ?_)
  · exact ne_t.1 b rfl
  cbv
  refine .mk _ _ h2 ?_ ?_
  all_goals cbv
  all_goals repeat' first | apply And.intro | exact trivial | exact SameI.mk (by with_reducible rfl) | exact SameN.mk (by with_reducible rfl) | exact SameL.mk (by with_reducible rfl) | exact SameB.mk (by with_reducible rfl) | exact LeN.mk (by with_reducible exact Nat.le_refl _) | apply SameI.mk | apply SameN.mk | apply SameL.mk | apply SameB.mk | apply LeN.mk
  all_goals first | rfl | exact (ofN_succ _).symm | (simp only [toNat_ofN, NX.v, IX.v, Nat.le_refl]; done) | ((try simp only [toNat_ofN, NX.v, IX.v, nadd, nsub]); omega) | skip
def compI (a b : KeyX) : KeyX := ⟨a.n, ofN (numTo (pickL (ordI a.n a.perm) (ordI a.n b.perm)) a.n), hideI b a.pad⟩
def invL (k : KeyX) : List Int := invTo (ordI k.n k.perm) k.n
def invI (k : KeyX) : KeyX := ⟨k.n, ofN (numTo (invL k) k.n), wordTo (pickL (bitsL k.n k.pad) (invL k)) k.n⟩
theorem e15 : EnvOk Try.prog (env [(68, cOrder), (70, cPick .i64), (69, cNumber), (32, cHide0)]) :=
  envOk_cons (envOk_cons (envOk_cons (envOk_cons envOk_nil s32 k32.callable) s69 k69.callable) s70 k70.callable) s68 k68.callable
def cCompose : Con := con (fun x : KeyX × KeyX => [.agg x.1.cells, .agg x.2.cells]) (fun _ => []) (fun x => x.1.ok ∧ x.2.ok ∧ x.1.n = x.2.n)
  (fun x K => K (.agg [.int .i64 (.t fun _ => ofN x.1.n), .int .i64 (.t fun _ => ofN (numTo (pickL (ordI x.1.n x.1.perm) (ordI x.1.n x.2.perm)) x.1.n)), .int .u16 (.t fun _ => hideI x.2 x.1.pad)]) [])
theorem s34 : Sound Try.prog 34 cCompose := by
  refine k34.con tabOk e15 mixed o34 fun x K hl h2 => ?_
  obtain ⟨⟨n, perm, pad⟩, ⟨m, qerm, qad⟩⟩ := x
  have e : n = m := hl.2.2
  subst e
  have ha : KeyX.ok ⟨n, perm, pad⟩ := hl.1
  have hb : KeyX.ok ⟨n, qerm, qad⟩ := hl.2.1
  cbv
  refine ⟨(n, perm, pad), ⟨ha.1, ha.2.1, ha.2.2.1, ha.2.2.2.1⟩, Ent.of_wvs ?_, trivial, ?_⟩
  · cbv
    repeat' first | apply And.intro | exact trivial | exact SameI.mk (by with_reducible rfl) | exact SameN.mk (by with_reducible rfl) | exact SameL.mk (by with_reducible rfl) | exact SameB.mk (by with_reducible rfl) | exact LeN.mk (by with_reducible exact Nat.le_refl _) | apply SameI.mk | apply SameN.mk | apply SameL.mk | apply SameB.mk | apply LeN.mk
    all_goals first | rfl | exact (ofN_succ _).symm | (simp only [toNat_ofN, NX.v, IX.v, Nat.le_refl]; done) | ((try simp only [toNat_ofN, NX.v, IX.v, nadd, nsub]); omega) | skip
  cbv
  refine ⟨(n, qerm, qad), ⟨hb.1, hb.2.1, hb.2.2.1, hb.2.2.2.1⟩, Ent.of_wvs ?_, trivial, ?_⟩
  · cbv
    repeat' first | apply And.intro | exact trivial | exact SameI.mk (by with_reducible rfl) | exact SameN.mk (by with_reducible rfl) | exact SameL.mk (by with_reducible rfl) | exact SameB.mk (by with_reducible rfl) | exact LeN.mk (by with_reducible exact Nat.le_refl _) | apply SameI.mk | apply SameN.mk | apply SameL.mk | apply SameB.mk | apply LeN.mk
    all_goals first | rfl | exact (ofN_succ _).symm | (simp only [toNat_ofN, NX.v, IX.v, Nat.le_refl]; done) | ((try simp only [toNat_ofN, NX.v, IX.v, nadd, nsub]); omega) | skip
  cbv
  refine ⟨(ordI n perm, ordI n qerm), ?_, Ent.of_wvs ?_, ?_, ?_⟩
  · dsimp only
    rw [ordI_length, ordI_length]
    exact ⟨Nat.le_trans hb.2.1 (by decide), fun i hi => ordI_range hb.2.2.2.1 hi⟩
  · cbv
    repeat' first | apply And.intro | exact trivial | exact SameI.mk (by with_reducible rfl) | exact SameN.mk (by with_reducible rfl) | exact SameL.mk (by with_reducible rfl) | exact SameB.mk (by with_reducible rfl) | exact LeN.mk (by with_reducible exact Nat.le_refl _) | apply SameI.mk | apply SameN.mk | apply SameL.mk | apply SameB.mk | apply LeN.mk
    all_goals first | rfl | exact (ofN_succ _).symm | (simp only [toNat_ofN, NX.v, IX.v, Nat.le_refl]; done) | ((try simp only [toNat_ofN, NX.v, IX.v, nadd, nsub]); omega) | skip
    all_goals simp only [NX.v, ordI_length, Nat.le_refl]
  · cbv
    repeat' first | apply And.intro | exact trivial | exact SameI.mk (by with_reducible rfl) | exact SameN.mk (by with_reducible rfl) | exact SameL.mk (by with_reducible rfl) | exact SameB.mk (by with_reducible rfl) | exact LeN.mk (by with_reducible exact Nat.le_refl _) | apply SameI.mk | apply SameN.mk | apply SameL.mk | apply SameB.mk | apply LeN.mk
    all_goals first | rfl | exact (ofN_succ _).symm | (simp only [toNat_ofN, NX.v, IX.v, Nat.le_refl]; done) | ((try simp only [toNat_ofN, NX.v, IX.v, nadd, nsub]); omega) | skip
  cbv
  refine ⟨pickL (ordI n perm) (ordI n qerm), ?_, Ent.of_wvs ?_, ?_, ?_⟩
  · rw [pickL_length, ordI_length]; exact hb.2.1
  · cbv
    repeat' first | apply And.intro | exact trivial | exact SameI.mk (by with_reducible rfl) | exact SameN.mk (by with_reducible rfl) | exact SameL.mk (by with_reducible rfl) | exact SameB.mk (by with_reducible rfl) | exact LeN.mk (by with_reducible exact Nat.le_refl _) | apply SameI.mk | apply SameN.mk | apply SameL.mk | apply SameB.mk | apply LeN.mk
    all_goals first | rfl | exact (ofN_succ _).symm | (simp only [toNat_ofN, NX.v, IX.v, Nat.le_refl]; done) | ((try simp only [toNat_ofN, NX.v, IX.v, nadd, nsub]); omega) | skip
    all_goals simp only [NX.v, pickL_length, ordI_length, Nat.le_refl]
  · cbv
    repeat' first | apply And.intro | exact trivial | exact SameI.mk (by with_reducible rfl) | exact SameN.mk (by with_reducible rfl) | exact SameL.mk (by with_reducible rfl) | exact SameB.mk (by with_reducible rfl) | exact LeN.mk (by with_reducible exact Nat.le_refl _) | apply SameI.mk | apply SameN.mk | apply SameL.mk | apply SameB.mk | apply LeN.mk
    all_goals first | rfl | exact (ofN_succ _).symm | (simp only [toNat_ofN, NX.v, IX.v, Nat.le_refl]; done) | ((try simp only [toNat_ofN, NX.v, IX.v, nadd, nsub]); omega) | skip
  cbv
  refine ⟨(⟨n, qerm, qad⟩, pad), hb, Ent.of_wvs ?_, trivial, ?_⟩
  · cbv
    repeat' first | apply And.intro | exact trivial | exact SameI.mk (by with_reducible rfl) | exact SameN.mk (by with_reducible rfl) | exact SameL.mk (by with_reducible rfl) | exact SameB.mk (by with_reducible rfl) | exact LeN.mk (by with_reducible exact Nat.le_refl _) | apply SameI.mk | apply SameN.mk | apply SameL.mk | apply SameB.mk | apply LeN.mk
    all_goals first | rfl | exact (ofN_succ _).symm | (simp only [toNat_ofN, NX.v, IX.v, Nat.le_refl]; done) | ((try simp only [toNat_ofN, NX.v, IX.v, nadd, nsub]); omega) | skip
  cbv
  refine .mk _ _ h2 ?_ ?_
  all_goals cbv
  all_goals repeat' first | apply And.intro | exact trivial | exact SameI.mk (by with_reducible rfl) | exact SameN.mk (by with_reducible rfl) | exact SameL.mk (by with_reducible rfl) | exact SameB.mk (by with_reducible rfl) | exact LeN.mk (by with_reducible exact Nat.le_refl _) | apply SameI.mk | apply SameN.mk | apply SameL.mk | apply SameB.mk | apply LeN.mk
  all_goals first | rfl | exact (ofN_succ _).symm | (simp only [toNat_ofN, NX.v, IX.v, Nat.le_refl]; done) | ((try simp only [toNat_ofN, NX.v, IX.v, nadd, nsub]); omega) | skip
  show ofN (numTo (pickL (ordI n perm) (ordI n qerm)) (pickL (ordI n perm) (ordI n qerm)).length) = ofN (numTo (pickL (ordI n perm) (ordI n qerm)) n)
  rw [pickL_length, ordI_length]
theorem e16 : EnvOk Try.prog (env [(68, cOrder), (71, cInverse), (69, cNumber), (67, cBits), (66, cPick .u16), (65, cWord)]) :=
  envOk_cons (envOk_cons (envOk_cons (envOk_cons (envOk_cons (envOk_cons envOk_nil s65 k65.callable) s66 k66.callable) s67 k67.callable) s69 k69.callable) s71 k71.callable) s68 k68.callable
def cInvert : Con := con (fun k : KeyX => [.agg k.cells]) (fun _ => []) KeyX.ok
  (fun k K => K (.agg [.int .i64 (.t fun _ => ofN k.n), .int .i64 (.t fun _ => ofN (numTo (invL k) k.n)), .int .u16 (.t fun _ => wordTo (pickL (bitsL k.n k.pad) (invL k)) k.n)]) [])
theorem invL_length (k : KeyX) : (invL k).length = k.n := by simp only [invL, invTo_length, ordI_length]
theorem invTo_range (l : List Int) (hl : 0 < l.length) : ∀ (i : Nat), i ≤ l.length → ∀ v ∈ invTo l i, 0 ≤ v ∧ v < ofN l.length
  | 0, _, v, hv => by
    simp only [invTo, List.mem_replicate] at hv
    rw [hv.2]; simp only [ofN]; omega
  | i + 1, hi, v, hv => by
    simp only [invTo] at hv
    rcases List.mem_or_eq_of_mem_set hv with h | h
    · exact invTo_range l hl i (by omega) v h
    · rw [h]; simp only [ofN]; omega
theorem invL_range {k : KeyX} (hk : 1 ≤ k.n) {i : Nat} (hi : i < k.n) : 0 ≤ (invL k).getD i 0 ∧ (invL k).getD i 0 < ofN k.n := by
  have hl := invL_length k
  have h := invTo_range (ordI k.n k.perm) (by rw [ordI_length]; omega) k.n (by rw [ordI_length]; exact Nat.le_refl _) ((invL k)[i]'(by omega)) (List.getElem_mem _)
  rw [ordI_length] at h
  rw [List.getD_eq_getElem?_getD, List.getElem?_eq_getElem (by omega)]
  exact h
theorem s35 : Sound Try.prog 35 cInvert := by
  refine k35.con tabOk e16 mixed o35 fun x K hl h2 => ?_
  obtain ⟨n, perm, pad⟩ := x
  have ha : KeyX.ok ⟨n, perm, pad⟩ := hl
  have a2 : n ≤ 15 := ha.2.1
  have li : (invL ⟨n, perm, pad⟩).length = n := invL_length _
  cbv
  refine ⟨(n, perm, pad), ⟨ha.1, ha.2.1, ha.2.2.1, ha.2.2.2.1⟩, Ent.of_wvs ?_, trivial, ?_⟩
  · cbv
    repeat' first | apply And.intro | exact trivial | exact SameI.mk (by with_reducible rfl) | exact SameN.mk (by with_reducible rfl) | exact SameL.mk (by with_reducible rfl) | exact SameB.mk (by with_reducible rfl) | exact LeN.mk (by with_reducible exact Nat.le_refl _) | apply SameI.mk | apply SameN.mk | apply SameL.mk | apply SameB.mk | apply LeN.mk
    all_goals first | rfl | exact (ofN_succ _).symm | (simp only [toNat_ofN, NX.v, IX.v, Nat.le_refl]; done) | ((try simp only [toNat_ofN, NX.v, IX.v, nadd, nsub]); omega) | skip
  cbv
  refine ⟨ordI n perm, ?_, Ent.of_wvs ?_, ?_, ?_⟩
  · rw [ordI_length]
    exact ⟨Nat.le_trans a2 (by decide), fun i hi => ordI_range ha.2.2.2.1 hi⟩
  · cbv
    repeat' first | apply And.intro | exact trivial | exact SameI.mk (by with_reducible rfl) | exact SameN.mk (by with_reducible rfl) | exact SameL.mk (by with_reducible rfl) | exact SameB.mk (by with_reducible rfl) | exact LeN.mk (by with_reducible exact Nat.le_refl _) | apply SameI.mk | apply SameN.mk | apply SameL.mk | apply SameB.mk | apply LeN.mk
    all_goals first | rfl | exact (ofN_succ _).symm | (simp only [toNat_ofN, NX.v, IX.v, Nat.le_refl]; done) | ((try simp only [toNat_ofN, NX.v, IX.v, nadd, nsub]); omega) | skip
    all_goals simp only [NX.v, ordI_length, Nat.le_refl]
  · cbv
    repeat' first | apply And.intro | exact trivial | exact SameI.mk (by with_reducible rfl) | exact SameN.mk (by with_reducible rfl) | exact SameL.mk (by with_reducible rfl) | exact SameB.mk (by with_reducible rfl) | exact LeN.mk (by with_reducible exact Nat.le_refl _) | apply SameI.mk | apply SameN.mk | apply SameL.mk | apply SameB.mk | apply LeN.mk
    all_goals first | rfl | exact (ofN_succ _).symm | (simp only [toNat_ofN, NX.v, IX.v, Nat.le_refl]; done) | ((try simp only [toNat_ofN, NX.v, IX.v, nadd, nsub]); omega) | skip
  cbv
  refine ⟨invL ⟨n, perm, pad⟩, ?_, Ent.of_wvs ?_, ?_, ?_⟩
  · rw [li]; exact a2
  · cbv
    repeat' first | apply And.intro | exact trivial | exact SameI.mk (by with_reducible rfl) | exact SameN.mk (by with_reducible rfl) | exact SameL.mk (by with_reducible rfl) | exact SameB.mk (by with_reducible rfl) | exact LeN.mk (by with_reducible exact Nat.le_refl _) | apply SameI.mk | apply SameN.mk | apply SameL.mk | apply SameB.mk | apply LeN.mk
    all_goals first | rfl | exact (ofN_succ _).symm | (simp only [toNat_ofN, NX.v, IX.v, Nat.le_refl]; done) | ((try simp only [toNat_ofN, NX.v, IX.v, nadd, nsub]); omega) | skip
    all_goals simp only [NX.v, li, ordI_length, Nat.le_refl]
  · cbv
    repeat' first | apply And.intro | exact trivial | exact SameI.mk (by with_reducible rfl) | exact SameN.mk (by with_reducible rfl) | exact SameL.mk (by with_reducible rfl) | exact SameB.mk (by with_reducible rfl) | exact LeN.mk (by with_reducible exact Nat.le_refl _) | apply SameI.mk | apply SameN.mk | apply SameL.mk | apply SameB.mk | apply LeN.mk
    all_goals first | rfl | exact (ofN_succ _).symm | (simp only [toNat_ofN, NX.v, IX.v, Nat.le_refl]; done) | ((try simp only [toNat_ofN, NX.v, IX.v, nadd, nsub]); omega) | skip
    show ints (invTo (ordI n perm) (ordI n perm).length) = ints (invTo (ordI n perm) n)
    rw [ordI_length]
  cbv
  refine ⟨(n, pad), Nat.le_trans a2 (by decide), Ent.of_wvs ?_, trivial, ?_⟩
  · cbv
    repeat' first | apply And.intro | exact trivial | exact SameI.mk (by with_reducible rfl) | exact SameN.mk (by with_reducible rfl) | exact SameL.mk (by with_reducible rfl) | exact SameB.mk (by with_reducible rfl) | exact LeN.mk (by with_reducible exact Nat.le_refl _) | apply SameI.mk | apply SameN.mk | apply SameL.mk | apply SameB.mk | apply LeN.mk
    all_goals first | rfl | exact (ofN_succ _).symm | (simp only [toNat_ofN, NX.v, IX.v, Nat.le_refl]; done) | ((try simp only [toNat_ofN, NX.v, IX.v, nadd, nsub]); omega) | skip
  cbv
  refine ⟨(bitsL n pad, invL ⟨n, perm, pad⟩), ?_, Ent.of_wvs ?_, ?_, ?_⟩
  · dsimp only
    rw [bitsL_length, li]
    exact ⟨Nat.le_trans a2 (by decide), fun i hi => invL_range (k := ⟨n, perm, pad⟩) ha.1 hi⟩
  · cbv
    repeat' first | apply And.intro | exact trivial | exact SameI.mk (by with_reducible rfl) | exact SameN.mk (by with_reducible rfl) | exact SameL.mk (by with_reducible rfl) | exact SameB.mk (by with_reducible rfl) | exact LeN.mk (by with_reducible exact Nat.le_refl _) | apply SameI.mk | apply SameN.mk | apply SameL.mk | apply SameB.mk | apply LeN.mk
    all_goals first | rfl | exact (ofN_succ _).symm | (simp only [toNat_ofN, NX.v, IX.v, Nat.le_refl]; done) | ((try simp only [toNat_ofN, NX.v, IX.v, nadd, nsub]); omega) | skip
    all_goals simp only [NX.v, li, bitsL_length, ordI_length, Nat.le_refl]
  · cbv
    repeat' first | apply And.intro | exact trivial | exact SameI.mk (by with_reducible rfl) | exact SameN.mk (by with_reducible rfl) | exact SameL.mk (by with_reducible rfl) | exact SameB.mk (by with_reducible rfl) | exact LeN.mk (by with_reducible exact Nat.le_refl _) | apply SameI.mk | apply SameN.mk | apply SameL.mk | apply SameB.mk | apply LeN.mk
    all_goals first | rfl | exact (ofN_succ _).symm | (simp only [toNat_ofN, NX.v, IX.v, Nat.le_refl]; done) | ((try simp only [toNat_ofN, NX.v, IX.v, nadd, nsub]); omega) | skip
  cbv
  refine ⟨pickL (bitsL n pad) (invL ⟨n, perm, pad⟩), ?_, Ent.of_wvs ?_, ?_, ?_⟩
  · rw [pickL_length, li]; exact Nat.le_trans a2 (by decide)
  · cbv
    repeat' first | apply And.intro | exact trivial | exact SameI.mk (by with_reducible rfl) | exact SameN.mk (by with_reducible rfl) | exact SameL.mk (by with_reducible rfl) | exact SameB.mk (by with_reducible rfl) | exact LeN.mk (by with_reducible exact Nat.le_refl _) | apply SameI.mk | apply SameN.mk | apply SameL.mk | apply SameB.mk | apply LeN.mk
    all_goals first | rfl | exact (ofN_succ _).symm | (simp only [toNat_ofN, NX.v, IX.v, Nat.le_refl]; done) | ((try simp only [toNat_ofN, NX.v, IX.v, nadd, nsub]); omega) | skip
    all_goals simp only [NX.v, pickL_length, li, Nat.le_refl]
  · cbv
    repeat' first | apply And.intro | exact trivial | exact SameI.mk (by with_reducible rfl) | exact SameN.mk (by with_reducible rfl) | exact SameL.mk (by with_reducible rfl) | exact SameB.mk (by with_reducible rfl) | exact LeN.mk (by with_reducible exact Nat.le_refl _) | apply SameI.mk | apply SameN.mk | apply SameL.mk | apply SameB.mk | apply LeN.mk
    all_goals first | rfl | exact (ofN_succ _).symm | (simp only [toNat_ofN, NX.v, IX.v, Nat.le_refl]; done) | ((try simp only [toNat_ofN, NX.v, IX.v, nadd, nsub]); omega) | skip
  cbv
  refine .mk _ _ h2 ?_ ?_
  all_goals cbv
  all_goals repeat' first | apply And.intro | exact trivial | exact SameI.mk (by with_reducible rfl) | exact SameN.mk (by with_reducible rfl) | exact SameL.mk (by with_reducible rfl) | exact SameB.mk (by with_reducible rfl) | exact LeN.mk (by with_reducible exact Nat.le_refl _) | apply SameI.mk | apply SameN.mk | apply SameL.mk | apply SameB.mk | apply LeN.mk
  all_goals first | rfl | exact (ofN_succ _).symm | (simp only [toNat_ofN, NX.v, IX.v, Nat.le_refl]; done) | ((try simp only [toNat_ofN, NX.v, IX.v, nadd, nsub]); omega) | skip
  · show ofN (numTo (invL ⟨n, perm, pad⟩) (invL ⟨n, perm, pad⟩).length) = ofN (numTo (invL ⟨n, perm, pad⟩) n)
    rw [li]
  · show wordTo (pickL (bitsL n pad) (invL ⟨n, perm, pad⟩)) (pickL (bitsL n pad) (invL ⟨n, perm, pad⟩)).length = wordTo (pickL (bitsL n pad) (invL ⟨n, perm, pad⟩)) n
    rw [pickL_length, li]
end Go.Proofs.Ytlgmbpnlakjefaa
