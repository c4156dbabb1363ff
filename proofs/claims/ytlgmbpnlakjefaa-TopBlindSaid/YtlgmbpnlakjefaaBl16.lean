/- Contracts: the reference's checks of keys and deals. -/
import Derived.Test.YtlgmbpnlakjefaaBl15
namespace Go.Proofs.Ytlgmbpnlakjefaa
open Go.Sy
set_option maxRecDepth 100000
set_option maxHeartbeats 1000000
set_option linter.unusedSimpArgs false
set_option linter.unusedVariables false
/-! ### numbers, tabled -/
def cNumbers : Con := con (fun f : Nat → Int => [.agg (cI .u8 f 15 0)]) (fun _ => []) (fun _ => True) (fun f K => K (.bool (.t fun _ => !anyGe 31 15 f)) [])
theorem s26 : Sound Try.prog 26 cNumbers := by
  refine k26.con tabOk envOk_nil mixed o26 fun f K hl h2 => ?_
  cbv
  refine loop_inv [1, 3] (fun (i : Nat) => i ≤ 15 ∧ ∀ j, j < i → ¬ 31 ≤ f j) (fun i => ⟨[.undef, .ptr 0 (.l 0) (.l 0), .undef, .int .i64 (.t fun _ => ofN i), .undef, .undef, .undef, .undef, .undef, .undef, .undef, .undef], [some ⟨true, .rows [.int .u8] fun _ => arrOf 15 f⟩]⟩) (fun i => 15 - i) 0 ⟨Nat.zero_le _, fun j hj => by omega⟩ ?_ ?_
  · cbv
    repeat' first | apply And.intro | exact trivial | exact SameI.mk (by with_reducible rfl) | exact SameN.mk (by with_reducible rfl) | exact SameL.mk (by with_reducible rfl) | exact SameB.mk (by with_reducible rfl) | exact LeN.mk (by with_reducible exact Nat.le_refl _) | apply SameI.mk | apply SameN.mk | apply SameL.mk | apply SameB.mk | apply LeN.mk
    all_goals first | rfl | exact (ofN_succ _).symm | (simp only [toNat_ofN, NX.v, IX.v, Nat.le_refl]; done) | ((try simp only [toNat_ofN, NX.v, IX.v, nadd, nsub]); omega) | skip
  · intro i R ⟨hi, hno⟩ hR
    have i0 := ofN_nonneg i
    cbv
    refine Br.mk (fun hc => ?_) (fun hc => ?_)
    · have hi2 : i < 15 := by have : ofN i < 15 := lt_t.1 hc; simp only [ofN] at this; omega
      have ea : at1 (arrOf 15 f) (ofN i).toNat = f i := by rw [toNat_ofN]; exact at1_arrOf hi2
      cbv
      refine Chk.mk (ofN_in hi2) ?_
      cbv
      refine Chk.mk (ofN_len hi2 (arrOf_length _ _)) ?_
      cbv
      refine Br.mk (fun hg => ?_) (fun hg => ?_)
      · have hg : 31 ≤ at1 (arrOf 15 f) (ofN i).toNat := ge_t.1 hg
        rw [ea] at hg
        cbv
        refine .mk ?_
        cbv
        refine .mk _ _ h2 ?_ ?_
        all_goals cbv
        all_goals repeat' first | apply And.intro | exact trivial | exact SameI.mk (by with_reducible rfl) | exact SameN.mk (by with_reducible rfl) | exact SameL.mk (by with_reducible rfl) | exact SameB.mk (by with_reducible rfl) | exact LeN.mk (by with_reducible exact Nat.le_refl _) | apply SameI.mk | apply SameN.mk | apply SameL.mk | apply SameB.mk | apply LeN.mk
        all_goals first | rfl | exact (ofN_succ _).symm | (simp only [toNat_ofN, NX.v, IX.v, Nat.le_refl]; done) | ((try simp only [toNat_ofN, NX.v, IX.v, nadd, nsub]); omega) | skip
        show false = !anyGe 31 15 f
        have : anyGe 31 15 f = true := List.any_eq_true.2 ⟨i, List.mem_range.2 hi2, decide_eq_true hg⟩
        rw [this]; rfl
      · have hg : ¬ 31 ≤ at1 (arrOf 15 f) (ofN i).toNat := ge_f.1 hg
        rw [ea] at hg
        cbv
        refine Chk.mk (inR64 (by rw [aop_add]; simp only [ofN]; omega)) ?_
        cbv
        refine .mk (hR (i + 1) _ ⟨hi2, fun j hj => by rcases Nat.lt_or_ge j i with h | h; exact hno j h; rw [show j = i by omega]; exact hg⟩ (by omega) ?_)
        cbv
        repeat' first | apply And.intro | exact trivial | exact SameI.mk (by with_reducible rfl) | exact SameN.mk (by with_reducible rfl) | exact SameL.mk (by with_reducible rfl) | exact SameB.mk (by with_reducible rfl) | exact LeN.mk (by with_reducible exact Nat.le_refl _) | apply SameI.mk | apply SameN.mk | apply SameL.mk | apply SameB.mk | apply LeN.mk
        all_goals first | rfl | exact (ofN_succ _).symm | (simp only [toNat_ofN, NX.v, IX.v, Nat.le_refl]; done) | ((try simp only [toNat_ofN, NX.v, IX.v, nadd, nsub]); omega) | skip
    · have hi2 : i = 15 := by have : ¬ ofN i < 15 := lt_f.1 hc; simp only [ofN] at this; omega
      subst hi2
      cbv
      refine .mk ?_
      cbv
      refine .mk _ _ h2 ?_ ?_
      all_goals cbv
      all_goals repeat' first | apply And.intro | exact trivial | exact SameI.mk (by with_reducible rfl) | exact SameN.mk (by with_reducible rfl) | exact SameL.mk (by with_reducible rfl) | exact SameB.mk (by with_reducible rfl) | exact LeN.mk (by with_reducible exact Nat.le_refl _) | apply SameI.mk | apply SameN.mk | apply SameL.mk | apply SameB.mk | apply LeN.mk
      all_goals first | rfl | exact (ofN_succ _).symm | (simp only [toNat_ofN, NX.v, IX.v, Nat.le_refl]; done) | ((try simp only [toNat_ofN, NX.v, IX.v, nadd, nsub]); omega) | skip
      show true = !anyGe 31 15 f
      have : anyGe 31 15 f = false := List.any_eq_false.2 fun j hj => by simpa using hno j (List.mem_range.1 hj)
      rw [this]; rfl
theorem shr31 {x : Int} (h : 0 ≤ x ∧ x < 4294967296) : (aop (.shr .u32) x 31 = 0) ↔ ¬ 2147483648 ≤ x := by
  show x.fdiv (2 ^ 31) = 0 ↔ _
  rw [Int.fdiv_eq_ediv_of_nonneg _ (by decide)]
  omega
def cTabled : Con := con (fun f : Nat → Int => [.agg (cI .u32 f 31 0)]) (fun _ => []) (fun f => ∀ i, 0 ≤ f i ∧ f i < 4294967296) (fun f K => K (.bool (.t fun _ => !anyGe 2147483648 31 f)) [])
theorem s27 : Sound Try.prog 27 cTabled := by
  refine k27.con tabOk envOk_nil mixed o27 fun f K hl h2 => ?_
  cbv
  refine loop_inv [1, 3] (fun (i : Nat) => i ≤ 31 ∧ ∀ j, j < i → ¬ 2147483648 ≤ f j) (fun i => ⟨[.undef, .ptr 0 (.l 0) (.l 0), .undef, .int .i64 (.t fun _ => ofN i), .undef, .undef, .undef, .undef, .undef, .undef, .undef, .undef, .undef], [some ⟨true, .rows [.int .u32] fun _ => arrOf 31 f⟩]⟩) (fun i => 31 - i) 0 ⟨Nat.zero_le _, fun j hj => by omega⟩ ?_ ?_
  · cbv
    repeat' first | apply And.intro | exact trivial | exact SameI.mk (by with_reducible rfl) | exact SameN.mk (by with_reducible rfl) | exact SameL.mk (by with_reducible rfl) | exact SameB.mk (by with_reducible rfl) | exact LeN.mk (by with_reducible exact Nat.le_refl _) | apply SameI.mk | apply SameN.mk | apply SameL.mk | apply SameB.mk | apply LeN.mk
    all_goals first | rfl | exact (ofN_succ _).symm | (simp only [toNat_ofN, NX.v, IX.v, Nat.le_refl]; done) | ((try simp only [toNat_ofN, NX.v, IX.v, nadd, nsub]); omega) | skip
  · intro i R ⟨hi, hno⟩ hR
    have i0 := ofN_nonneg i
    cbv
    refine Br.mk (fun hc => ?_) (fun hc => ?_)
    · have hi2 : i < 31 := by have : ofN i < 31 := lt_t.1 hc; simp only [ofN] at this; omega
      have ea : at1 (arrOf 31 f) (ofN i).toNat = f i := by rw [toNat_ofN]; exact at1_arrOf hi2
      cbv
      refine Chk.mk (ofN_in hi2) ?_
      cbv
      refine Chk.mk (ofN_len hi2 (arrOf_length _ _)) ?_
      cbv
      refine Br.mk (fun hg => ?_) (fun hg => ?_)
      · have hg : ¬ aop (.shr .u32) (at1 (arrOf 31 f) (ofN i).toNat) 31 = 0 := ne_t.1 hg
        rw [ea, shr31 (hl i)] at hg
        have hg := Classical.not_not.1 hg
        cbv
        refine .mk ?_
        cbv
        refine .mk _ _ h2 ?_ ?_
        all_goals cbv
        all_goals repeat' first | apply And.intro | exact trivial | exact SameI.mk (by with_reducible rfl) | exact SameN.mk (by with_reducible rfl) | exact SameL.mk (by with_reducible rfl) | exact SameB.mk (by with_reducible rfl) | exact LeN.mk (by with_reducible exact Nat.le_refl _) | apply SameI.mk | apply SameN.mk | apply SameL.mk | apply SameB.mk | apply LeN.mk
        all_goals first | rfl | exact (ofN_succ _).symm | (simp only [toNat_ofN, NX.v, IX.v, Nat.le_refl]; done) | ((try simp only [toNat_ofN, NX.v, IX.v, nadd, nsub]); omega) | skip
        show false = !anyGe 2147483648 31 f
        have : anyGe 2147483648 31 f = true := List.any_eq_true.2 ⟨i, List.mem_range.2 hi2, decide_eq_true hg⟩
        rw [this]; rfl
      · have hg : aop (.shr .u32) (at1 (arrOf 31 f) (ofN i).toNat) 31 = 0 := ne_f.1 hg
        rw [ea, shr31 (hl i)] at hg
        cbv
        refine Chk.mk (inR64 (by rw [aop_add]; simp only [ofN]; omega)) ?_
        cbv
        refine .mk (hR (i + 1) _ ⟨hi2, fun j hj => by rcases Nat.lt_or_ge j i with h | h; exact hno j h; rw [show j = i by omega]; exact hg⟩ (by omega) ?_)
        cbv
        repeat' first | apply And.intro | exact trivial | exact SameI.mk (by with_reducible rfl) | exact SameN.mk (by with_reducible rfl) | exact SameL.mk (by with_reducible rfl) | exact SameB.mk (by with_reducible rfl) | exact LeN.mk (by with_reducible exact Nat.le_refl _) | apply SameI.mk | apply SameN.mk | apply SameL.mk | apply SameB.mk | apply LeN.mk
        all_goals first | rfl | exact (ofN_succ _).symm | (simp only [toNat_ofN, NX.v, IX.v, Nat.le_refl]; done) | ((try simp only [toNat_ofN, NX.v, IX.v, nadd, nsub]); omega) | skip
    · have hi2 : i = 31 := by have : ¬ ofN i < 31 := lt_f.1 hc; simp only [ofN] at this; omega
      subst hi2
      cbv
      refine .mk ?_
      cbv
      refine .mk _ _ h2 ?_ ?_
      all_goals cbv
      all_goals repeat' first | apply And.intro | exact trivial | exact SameI.mk (by with_reducible rfl) | exact SameN.mk (by with_reducible rfl) | exact SameL.mk (by with_reducible rfl) | exact SameB.mk (by with_reducible rfl) | exact LeN.mk (by with_reducible exact Nat.le_refl _) | apply SameI.mk | apply SameN.mk | apply SameL.mk | apply SameB.mk | apply LeN.mk
      all_goals first | rfl | exact (ofN_succ _).symm | (simp only [toNat_ofN, NX.v, IX.v, Nat.le_refl]; done) | ((try simp only [toNat_ofN, NX.v, IX.v, nadd, nsub]); omega) | skip
      show true = !anyGe 2147483648 31 f
      have : anyGe 2147483648 31 f = false := List.any_eq_false.2 fun j hj => by simpa using hno j (List.mem_range.1 hj)
      rw [this]; rfl
/-! ### within -/
def withinB (n lo hi : Int) : Bool := decide (lo ≤ n) && decide (n ≤ hi)
def cWithin : Con := con (fun x : Int × Int × Int => [.int .i64 (.t fun _ => x.1), .int .i64 (.t fun _ => x.2.1), .int .i64 (.t fun _ => x.2.2)]) (fun _ => []) (fun _ => True) (fun x K => K (.bool (.t fun _ => withinB x.1 x.2.1 x.2.2)) [])
theorem s28 : Sound Try.prog 28 cWithin := by
  refine k28.con tabOk envOk_nil mixed o28 fun x K hl h2 => ?_
  obtain ⟨n, lo, hi⟩ := x
  cbv
  refine Br.mk (fun b => ?_) (fun b => ?_)
  · have b : lo ≤ n := ge_t.1 b
    cbv
    refine .mk _ _ h2 ?_ ?_
    all_goals cbv
    all_goals repeat' first | apply And.intro | exact trivial | exact SameI.mk (by with_reducible rfl) | exact SameN.mk (by with_reducible rfl) | exact SameL.mk (by with_reducible rfl) | exact SameB.mk (by with_reducible rfl) | exact LeN.mk (by with_reducible exact Nat.le_refl _) | apply SameI.mk | apply SameN.mk | apply SameL.mk | apply SameB.mk | apply LeN.mk
    all_goals first | rfl | exact (ofN_succ _).symm | (simp only [toNat_ofN, NX.v, IX.v, Nat.le_refl]; done) | ((try simp only [toNat_ofN, NX.v, IX.v, nadd, nsub]); omega) | skip
    show decide (n ≤ hi) = withinB n lo hi
    simp [withinB, b]
  · have b : ¬ lo ≤ n := ge_f.1 b
    cbv
    refine .mk _ _ h2 ?_ ?_
    all_goals cbv
    all_goals repeat' first | apply And.intro | exact trivial | exact SameI.mk (by with_reducible rfl) | exact SameN.mk (by with_reducible rfl) | exact SameL.mk (by with_reducible rfl) | exact SameB.mk (by with_reducible rfl) | exact LeN.mk (by with_reducible exact Nat.le_refl _) | apply SameI.mk | apply SameN.mk | apply SameL.mk | apply SameB.mk | apply LeN.mk
    all_goals first | rfl | exact (ofN_succ _).symm | (simp only [toNat_ofN, NX.v, IX.v, Nat.le_refl]; done) | ((try simp only [toNat_ofN, NX.v, IX.v, nadd, nsub]); omega) | skip
    show false = withinB n lo hi
    simp [withinB, b]
theorem s39 : Sound Try.prog 39 cWithin := by
  refine k39.con tabOk envOk_nil mixed o39 fun x K hl h2 => ?_
  obtain ⟨n, lo, hi⟩ := x
  cbv
  refine Br.mk (fun b => ?_) (fun b => ?_)
  · have b : lo ≤ n := ge_t.1 b
    cbv
    refine .mk _ _ h2 ?_ ?_
    all_goals cbv
    all_goals repeat' first | apply And.intro | exact trivial | exact SameI.mk (by with_reducible rfl) | exact SameN.mk (by with_reducible rfl) | exact SameL.mk (by with_reducible rfl) | exact SameB.mk (by with_reducible rfl) | exact LeN.mk (by with_reducible exact Nat.le_refl _) | apply SameI.mk | apply SameN.mk | apply SameL.mk | apply SameB.mk | apply LeN.mk
    all_goals first | rfl | exact (ofN_succ _).symm | (simp only [toNat_ofN, NX.v, IX.v, Nat.le_refl]; done) | ((try simp only [toNat_ofN, NX.v, IX.v, nadd, nsub]); omega) | skip
    show decide (n ≤ hi) = withinB n lo hi
    simp [withinB, b]
  · have b : ¬ lo ≤ n := ge_f.1 b
    cbv
    refine .mk _ _ h2 ?_ ?_
    all_goals cbv
    all_goals repeat' first | apply And.intro | exact trivial | exact SameI.mk (by with_reducible rfl) | exact SameN.mk (by with_reducible rfl) | exact SameL.mk (by with_reducible rfl) | exact SameB.mk (by with_reducible rfl) | exact LeN.mk (by with_reducible exact Nat.le_refl _) | apply SameI.mk | apply SameN.mk | apply SameL.mk | apply SameB.mk | apply LeN.mk
    all_goals first | rfl | exact (ofN_succ _).symm | (simp only [toNat_ofN, NX.v, IX.v, Nat.le_refl]; done) | ((try simp only [toNat_ofN, NX.v, IX.v, nadd, nsub]); omega) | skip
    show false = withinB n lo hi
    simp [withinB, b]
/-! ### Factorial, Fits -/
def cFactorial : Con := con (fun n : Nat => [.int .i64 (.t fun _ => ofN n)]) (fun _ => []) (fun n => 1 ≤ n ∧ n ≤ 15) (fun n K => K (.int .i64 (.t fun _ => ofN (fact n))) [])
theorem s29 : Sound Try.prog 29 cFactorial := by
  refine k29.con tabOk envOk_nil mixed o29 fun n K hl h2 => ?_
  have hn1 := hl.1
  have hn2 := hl.2
  cbv
  refine loop_inv [0, 3, 4] (fun (j : Nat) => j + 1 ≤ n) (fun j => ⟨[.int .i64 (.t fun _ => ofN n), .undef, .undef, .int .i64 (.t fun _ => ofN (fact (j + 1))), .int .i64 (.t fun _ => ofN j + 2), .undef, .undef, .undef, .undef, .undef, .undef, .undef, .undef, .undef], []⟩) (fun j => n - j) 0 hn1 ?_ ?_
  · cbv
    repeat' first | apply And.intro | exact trivial | exact SameI.mk (by with_reducible rfl) | exact SameN.mk (by with_reducible rfl) | exact SameL.mk (by with_reducible rfl) | exact SameB.mk (by with_reducible rfl) | exact LeN.mk (by with_reducible exact Nat.le_refl _) | apply SameI.mk | apply SameN.mk | apply SameL.mk | apply SameB.mk | apply LeN.mk
    all_goals first | rfl | exact (ofN_succ _).symm | (simp only [toNat_ofN, NX.v, IX.v, Nat.le_refl]; done) | ((try simp only [toNat_ofN, NX.v, IX.v, nadd, nsub]); omega) | skip
  · intro j R hj hR
    have j0 := ofN_nonneg j
    cbv
    refine Br.mk (fun hc => ?_) (fun hc => ?_)
    · have hc : ofN j + 2 ≤ ofN n := le_t.1 hc
      have hj2 : j + 2 ≤ n := by simp only [ofN] at hc; omega
      have hf := fact_le15 (n := j + 2) (by omega)
      have e : ofN (fact (j + 1)) * (ofN j + 2) = ofN (fact (j + 2)) := by
        show ofN (fact (j + 1)) * (ofN j + 2) = ofN (fact (j + 1) * (j + 1 + 1))
        simp only [ofN]; rw [Int.natCast_mul]; congr 1
      cbv
      refine Chk.mk (by show inR .i64 (ofN (fact (j + 1)) * (ofN j + 2)) = true; rw [e]; exact inR64 (by simp only [ofN]; omega)) ?_
      cbv
      refine Chk.mk (inR64 (by rw [aop_add]; simp only [ofN]; omega)) ?_
      cbv
      refine .mk (hR (j + 1) _ hj2 (by omega) ?_)
      cbv
      repeat' first | apply And.intro | exact trivial | exact SameI.mk (by with_reducible rfl) | exact SameN.mk (by with_reducible rfl) | exact SameL.mk (by with_reducible rfl) | exact SameB.mk (by with_reducible rfl) | exact LeN.mk (by with_reducible exact Nat.le_refl _) | apply SameI.mk | apply SameN.mk | apply SameL.mk | apply SameB.mk | apply LeN.mk
      all_goals first | rfl | exact (ofN_succ _).symm | (simp only [toNat_ofN, NX.v, IX.v, Nat.le_refl]; done) | ((try simp only [toNat_ofN, NX.v, IX.v, nadd, nsub]); omega) | skip
      all_goals first | exact e | (show ofN j + 2 + 1 = ofN (j + 1) + 2; simp only [ofN]; omega)
    · have hc : ¬ ofN j + 2 ≤ ofN n := le_f.1 hc
      have hj2 : j + 1 = n := by simp only [ofN] at hc; omega
      subst hj2
      cbv
      refine .mk ?_
      cbv
      refine .mk _ _ h2 ?_ ?_
      all_goals cbv
      all_goals repeat' first | apply And.intro | exact trivial | exact SameI.mk (by with_reducible rfl) | exact SameN.mk (by with_reducible rfl) | exact SameL.mk (by with_reducible rfl) | exact SameB.mk (by with_reducible rfl) | exact LeN.mk (by with_reducible exact Nat.le_refl _) | apply SameI.mk | apply SameN.mk | apply SameL.mk | apply SameB.mk | apply LeN.mk
      all_goals first | rfl | exact (ofN_succ _).symm | (simp only [toNat_ofN, NX.v, IX.v, Nat.le_refl]; done) | ((try simp only [toNat_ofN, NX.v, IX.v, nadd, nsub]); omega) | skip
def cFits : Con := con (fun x : Nat × Int => [.int .i64 (.t fun _ => ofN x.1), .int .u16 (.t fun _ => x.2)]) (fun _ => []) (fun x => x.1 ≤ 15 ∧ 0 ≤ x.2 ∧ x.2 ≤ 65535) (fun x K => K (.bool (.t fun _ => decide (x.2 < ofN (2 ^ x.1)))) [])
theorem s30 : Sound Try.prog 30 cFits := by
  refine k30.con tabOk envOk_nil mixed o30 fun x K hl h2 => ?_
  obtain ⟨n, w⟩ := x
  have a2 : n ≤ 15 := hl.1
  have a3 : 0 ≤ w := hl.2.1
  have a4 : w ≤ 65535 := hl.2.2
  have s1 := shl1 a2
  have s2 := ofN_nonneg n
  cbv
  refine Chk.mk (s2) ?_
  cbv
  refine .mk _ _ h2 ?_ ?_
  all_goals cbv
  all_goals repeat' first | apply And.intro | exact trivial | exact SameI.mk (by with_reducible rfl) | exact SameN.mk (by with_reducible rfl) | exact SameL.mk (by with_reducible rfl) | exact SameB.mk (by with_reducible rfl) | exact LeN.mk (by with_reducible exact Nat.le_refl _) | apply SameI.mk | apply SameN.mk | apply SameL.mk | apply SameB.mk | apply LeN.mk
  all_goals first | rfl | exact (ofN_succ _).symm | (simp only [toNat_ofN, NX.v, IX.v, Nat.le_refl]; done) | ((try simp only [toNat_ofN, NX.v, IX.v, nadd, nsub]); omega) | skip
  show decide (IntKind.i64.wrap w < aop (.shl .i64) 1 (ofN n)) = decide (w < ofN (2 ^ n))
  rw [s1, wrap64 (by omega)]
/-! ### Valid -/
def validB (b perm pad : Int) : Bool := decide (1 ≤ b) && decide (b ≤ 15) && decide (0 ≤ perm) && decide (perm < ofN (fact b.toNat)) && decide (pad < ofN (2 ^ b.toNat))
def cValid : Con := con (fun x : Int × Int × Int => [.agg [.int .i64 (.t fun _ => x.1), .int .i64 (.t fun _ => x.2.1), .int .u16 (.t fun _ => x.2.2)]]) (fun _ => []) (fun x => 0 ≤ x.2.2 ∧ x.2.2 ≤ 65535) (fun x K => K (.bool (.t fun _ => validB x.1 x.2.1 x.2.2)) [])
theorem e21 : EnvOk Try.prog (env [(28, cWithin), (29, cFactorial), (30, cFits)]) := envOk_cons (envOk_cons (envOk_cons envOk_nil s30 k30.callable) s29 k29.callable) s28 k28.callable
theorem s7 : Sound Try.prog 7 cValid := by
  refine k7.con tabOk e21 mixed o7 fun x K hl h2 => ?_
  obtain ⟨b, perm, pad⟩ := x
  have hpd : 0 ≤ pad ∧ pad ≤ 65535 := hl
  cbv
  refine ⟨(b, 1, 15), trivial, Ent.of_wvs ?_, trivial, ?_⟩
  · cbv
    repeat' first | apply And.intro | exact trivial | exact SameI.mk (by with_reducible rfl) | exact SameN.mk (by with_reducible rfl) | exact SameL.mk (by with_reducible rfl) | exact SameB.mk (by with_reducible rfl) | exact LeN.mk (by with_reducible exact Nat.le_refl _) | apply SameI.mk | apply SameN.mk | apply SameL.mk | apply SameB.mk | apply LeN.mk
    all_goals first | rfl | exact (ofN_succ _).symm | (simp only [toNat_ofN, NX.v, IX.v, Nat.le_refl]; done) | ((try simp only [toNat_ofN, NX.v, IX.v, nadd, nsub]); omega) | skip
  cbv
  refine Br.mk (fun c => ?_) (fun c => ?_)
  · have c1 : 1 ≤ b ∧ b ≤ 15 := by
      have c : withinB b 1 15 = true := c
      simpa [withinB] using c
    have eb : b = ofN b.toNat := ofN_of (by omega)
    have hn : 1 ≤ b.toNat ∧ b.toNat ≤ 15 := by omega
    have hf := fact_le15 hn.2
    cbv
    refine ⟨b.toNat, hn, Ent.of_wvs ?_, trivial, ?_⟩
    · cbv
      repeat' first | apply And.intro | exact trivial | exact SameI.mk (by with_reducible rfl) | exact SameN.mk (by with_reducible rfl) | exact SameL.mk (by with_reducible rfl) | exact SameB.mk (by with_reducible rfl) | exact LeN.mk (by with_reducible exact Nat.le_refl _) | apply SameI.mk | apply SameN.mk | apply SameL.mk | apply SameB.mk | apply LeN.mk
      all_goals first | rfl | exact (ofN_succ _).symm | (simp only [toNat_ofN, NX.v, IX.v, Nat.le_refl]; done) | ((try simp only [toNat_ofN, NX.v, IX.v, nadd, nsub]); omega) | skip
      all_goals exact eb
    cbv
    refine Chk.mk (inR64 (by rw [aop_sub]; simp only [ofN]; omega)) ?_
    cbv
    refine ⟨(perm, 0, ofN (fact b.toNat) - 1), trivial, Ent.of_wvs ?_, trivial, ?_⟩
    · cbv
      repeat' first | apply And.intro | exact trivial | exact SameI.mk (by with_reducible rfl) | exact SameN.mk (by with_reducible rfl) | exact SameL.mk (by with_reducible rfl) | exact SameB.mk (by with_reducible rfl) | exact LeN.mk (by with_reducible exact Nat.le_refl _) | apply SameI.mk | apply SameN.mk | apply SameL.mk | apply SameB.mk | apply LeN.mk
      all_goals first | rfl | exact (ofN_succ _).symm | (simp only [toNat_ofN, NX.v, IX.v, Nat.le_refl]; done) | ((try simp only [toNat_ofN, NX.v, IX.v, nadd, nsub]); omega) | skip
    cbv
    refine Br.mk (fun c2 => ?_) (fun c2 => ?_)
    · have c2 : 0 ≤ perm ∧ perm ≤ ofN (fact b.toNat) - 1 := by
        have c2 : withinB perm 0 (ofN (fact b.toNat) - 1) = true := c2
        simpa [withinB] using c2
      cbv
      refine ⟨(b.toNat, pad), ⟨hn.2, hpd⟩, Ent.of_wvs ?_, trivial, ?_⟩
      · cbv
        repeat' first | apply And.intro | exact trivial | exact SameI.mk (by with_reducible rfl) | exact SameN.mk (by with_reducible rfl) | exact SameL.mk (by with_reducible rfl) | exact SameB.mk (by with_reducible rfl) | exact LeN.mk (by with_reducible exact Nat.le_refl _) | apply SameI.mk | apply SameN.mk | apply SameL.mk | apply SameB.mk | apply LeN.mk
        all_goals first | rfl | exact (ofN_succ _).symm | (simp only [toNat_ofN, NX.v, IX.v, Nat.le_refl]; done) | ((try simp only [toNat_ofN, NX.v, IX.v, nadd, nsub]); omega) | skip
        all_goals exact eb
      cbv
      refine .mk _ _ h2 ?_ ?_
      all_goals cbv
      all_goals repeat' first | apply And.intro | exact trivial | exact SameI.mk (by with_reducible rfl) | exact SameN.mk (by with_reducible rfl) | exact SameL.mk (by with_reducible rfl) | exact SameB.mk (by with_reducible rfl) | exact LeN.mk (by with_reducible exact Nat.le_refl _) | apply SameI.mk | apply SameN.mk | apply SameL.mk | apply SameB.mk | apply LeN.mk
      all_goals first | rfl | exact (ofN_succ _).symm | (simp only [toNat_ofN, NX.v, IX.v, Nat.le_refl]; done) | ((try simp only [toNat_ofN, NX.v, IX.v, nadd, nsub]); omega) | skip
      show decide (pad < ofN (2 ^ b.toNat)) = validB b perm pad
      simp [validB, c1, c2.1, show perm < ofN (fact b.toNat) from by omega]
    · have c2 : ¬ (0 ≤ perm ∧ perm ≤ ofN (fact b.toNat) - 1) := by
        have c2 : withinB perm 0 (ofN (fact b.toNat) - 1) = false := c2
        intro h
        simp [withinB, h.1, h.2] at c2
      cbv
      refine .mk _ _ h2 ?_ ?_
      all_goals cbv
      all_goals repeat' first | apply And.intro | exact trivial | exact SameI.mk (by with_reducible rfl) | exact SameN.mk (by with_reducible rfl) | exact SameL.mk (by with_reducible rfl) | exact SameB.mk (by with_reducible rfl) | exact LeN.mk (by with_reducible exact Nat.le_refl _) | apply SameI.mk | apply SameN.mk | apply SameL.mk | apply SameB.mk | apply LeN.mk
      all_goals first | rfl | exact (ofN_succ _).symm | (simp only [toNat_ofN, NX.v, IX.v, Nat.le_refl]; done) | ((try simp only [toNat_ofN, NX.v, IX.v, nadd, nsub]); omega) | skip
      show false = validB b perm pad
      have c3 : ¬ (0 ≤ perm ∧ perm < ofN (fact b.toNat)) := fun h => c2 ⟨h.1, by omega⟩
      by_cases e : 0 ≤ perm
      · have e2 : ¬ perm < ofN (fact b.toNat) := fun h => c3 ⟨e, h⟩
        simp [validB, e2]
      · simp [validB, e]
  · have c1 : ¬ (1 ≤ b ∧ b ≤ 15) := by
      have c : withinB b 1 15 = false := c
      intro h
      simp [withinB, h.1, h.2] at c
    cbv
    refine .mk _ _ h2 ?_ ?_
    all_goals cbv
    all_goals repeat' first | apply And.intro | exact trivial | exact SameI.mk (by with_reducible rfl) | exact SameN.mk (by with_reducible rfl) | exact SameL.mk (by with_reducible rfl) | exact SameB.mk (by with_reducible rfl) | exact LeN.mk (by with_reducible exact Nat.le_refl _) | apply SameI.mk | apply SameN.mk | apply SameL.mk | apply SameB.mk | apply LeN.mk
    all_goals first | rfl | exact (ofN_succ _).symm | (simp only [toNat_ofN, NX.v, IX.v, Nat.le_refl]; done) | ((try simp only [toNat_ofN, NX.v, IX.v, nadd, nsub]); omega) | skip
    show false = validB b perm pad
    by_cases e : 1 ≤ b
    · have e2 : ¬ b ≤ 15 := fun h => c1 ⟨e, h⟩
      simp [validB, e2]
    · simp [validB, e]
/-! ### ValidDeal -/
def validDealB (x : DealX) : Bool := !anyGe 31 15 x.a && !anyGe 31 15 x.b && !anyGe 31 15 x.u && decide (x.rc < 31) && decide (x.rs < 31) && !anyGe 2147483648 31 x.t
theorem e22 : EnvOk Try.prog (env [(26, cNumbers), (27, cTabled)]) := envOk_cons (envOk_cons envOk_nil s27 k27.callable) s26 k26.callable
def cValidDeal : Con := con (fun x : DealX => [.agg x.cells]) (fun _ => []) (fun x => ∀ i, 0 ≤ x.t i ∧ x.t i < 4294967296) (fun x K => K (.bool (.t fun _ => validDealB x)) [])
theorem s6 : Sound Try.prog 6 cValidDeal := by
  refine k6.con tabOk e22 mixed o6 fun x K hl h2 => ?_
  obtain ⟨a, b, u, rc, rs, t⟩ := x
  have ht : ∀ i, 0 ≤ t i ∧ t i < 4294967296 := hl
  cbv
  refine ⟨a, trivial, Ent.of_wvs ?_, trivial, ?_⟩
  · cbv
    repeat' first | apply And.intro | exact trivial | exact SameI.mk (by with_reducible rfl) | exact SameN.mk (by with_reducible rfl) | exact SameL.mk (by with_reducible rfl) | exact SameB.mk (by with_reducible rfl) | exact LeN.mk (by with_reducible exact Nat.le_refl _) | apply SameI.mk | apply SameN.mk | apply SameL.mk | apply SameB.mk | apply LeN.mk
    all_goals first | rfl | exact (ofN_succ _).symm | (simp only [toNat_ofN, NX.v, IX.v, Nat.le_refl]; done) | ((try simp only [toNat_ofN, NX.v, IX.v, nadd, nsub]); omega) | skip
  cbv
  refine Br.mk (fun c1 => ?_) (fun c1 => ?_)
  rotate_left
  · have c1 : (!anyGe 31 15 a) = false := c1
    cbv
    refine .mk _ _ h2 ?_ ?_
    all_goals cbv
    all_goals repeat' first | apply And.intro | exact trivial | exact SameI.mk (by with_reducible rfl) | exact SameN.mk (by with_reducible rfl) | exact SameL.mk (by with_reducible rfl) | exact SameB.mk (by with_reducible rfl) | exact LeN.mk (by with_reducible exact Nat.le_refl _) | apply SameI.mk | apply SameN.mk | apply SameL.mk | apply SameB.mk | apply LeN.mk
    all_goals first | rfl | exact (ofN_succ _).symm | (simp only [toNat_ofN, NX.v, IX.v, Nat.le_refl]; done) | ((try simp only [toNat_ofN, NX.v, IX.v, nadd, nsub]); omega) | skip
    show false = validDealB _
    simp [validDealB, c1]
  have c1 : (!anyGe 31 15 a) = true := c1
  cbv
  refine ⟨b, trivial, Ent.of_wvs ?_, trivial, ?_⟩
  · cbv
    repeat' first | apply And.intro | exact trivial | exact SameI.mk (by with_reducible rfl) | exact SameN.mk (by with_reducible rfl) | exact SameL.mk (by with_reducible rfl) | exact SameB.mk (by with_reducible rfl) | exact LeN.mk (by with_reducible exact Nat.le_refl _) | apply SameI.mk | apply SameN.mk | apply SameL.mk | apply SameB.mk | apply LeN.mk
    all_goals first | rfl | exact (ofN_succ _).symm | (simp only [toNat_ofN, NX.v, IX.v, Nat.le_refl]; done) | ((try simp only [toNat_ofN, NX.v, IX.v, nadd, nsub]); omega) | skip
  cbv
  refine Br.mk (fun c2 => ?_) (fun c2 => ?_)
  rotate_left
  · have c2 : (!anyGe 31 15 b) = false := c2
    cbv
    refine .mk _ _ h2 ?_ ?_
    all_goals cbv
    all_goals repeat' first | apply And.intro | exact trivial | exact SameI.mk (by with_reducible rfl) | exact SameN.mk (by with_reducible rfl) | exact SameL.mk (by with_reducible rfl) | exact SameB.mk (by with_reducible rfl) | exact LeN.mk (by with_reducible exact Nat.le_refl _) | apply SameI.mk | apply SameN.mk | apply SameL.mk | apply SameB.mk | apply LeN.mk
    all_goals first | rfl | exact (ofN_succ _).symm | (simp only [toNat_ofN, NX.v, IX.v, Nat.le_refl]; done) | ((try simp only [toNat_ofN, NX.v, IX.v, nadd, nsub]); omega) | skip
    show false = validDealB _
    simp [validDealB, c2]
  have c2 : (!anyGe 31 15 b) = true := c2
  cbv
  refine ⟨u, trivial, Ent.of_wvs ?_, trivial, ?_⟩
  · cbv
    repeat' first | apply And.intro | exact trivial | exact SameI.mk (by with_reducible rfl) | exact SameN.mk (by with_reducible rfl) | exact SameL.mk (by with_reducible rfl) | exact SameB.mk (by with_reducible rfl) | exact LeN.mk (by with_reducible exact Nat.le_refl _) | apply SameI.mk | apply SameN.mk | apply SameL.mk | apply SameB.mk | apply LeN.mk
    all_goals first | rfl | exact (ofN_succ _).symm | (simp only [toNat_ofN, NX.v, IX.v, Nat.le_refl]; done) | ((try simp only [toNat_ofN, NX.v, IX.v, nadd, nsub]); omega) | skip
  cbv
  refine Br.mk (fun c3 => ?_) (fun c3 => ?_)
  rotate_left
  · have c3 : (!anyGe 31 15 u) = false := c3
    cbv
    refine .mk _ _ h2 ?_ ?_
    all_goals cbv
    all_goals repeat' first | apply And.intro | exact trivial | exact SameI.mk (by with_reducible rfl) | exact SameN.mk (by with_reducible rfl) | exact SameL.mk (by with_reducible rfl) | exact SameB.mk (by with_reducible rfl) | exact LeN.mk (by with_reducible exact Nat.le_refl _) | apply SameI.mk | apply SameN.mk | apply SameL.mk | apply SameB.mk | apply LeN.mk
    all_goals first | rfl | exact (ofN_succ _).symm | (simp only [toNat_ofN, NX.v, IX.v, Nat.le_refl]; done) | ((try simp only [toNat_ofN, NX.v, IX.v, nadd, nsub]); omega) | skip
    show false = validDealB _
    simp [validDealB, c3]
  have c3 : (!anyGe 31 15 u) = true := c3
  cbv
  refine Br.mk (fun c4 => ?_) (fun c4 => ?_)
  rotate_left
  · have c4 : decide (rc < 31) = false := c4
    cbv
    refine .mk _ _ h2 ?_ ?_
    all_goals cbv
    all_goals repeat' first | apply And.intro | exact trivial | exact SameI.mk (by with_reducible rfl) | exact SameN.mk (by with_reducible rfl) | exact SameL.mk (by with_reducible rfl) | exact SameB.mk (by with_reducible rfl) | exact LeN.mk (by with_reducible exact Nat.le_refl _) | apply SameI.mk | apply SameN.mk | apply SameL.mk | apply SameB.mk | apply LeN.mk
    all_goals first | rfl | exact (ofN_succ _).symm | (simp only [toNat_ofN, NX.v, IX.v, Nat.le_refl]; done) | ((try simp only [toNat_ofN, NX.v, IX.v, nadd, nsub]); omega) | skip
    show false = validDealB _
    simp [validDealB, show ¬ rc < 31 from of_decide_eq_false c4]
  have c4 : rc < 31 := lt_t.1 c4
  cbv
  refine Br.mk (fun c5 => ?_) (fun c5 => ?_)
  rotate_left
  · have c5 : decide (rs < 31) = false := c5
    cbv
    refine .mk _ _ h2 ?_ ?_
    all_goals cbv
    all_goals repeat' first | apply And.intro | exact trivial | exact SameI.mk (by with_reducible rfl) | exact SameN.mk (by with_reducible rfl) | exact SameL.mk (by with_reducible rfl) | exact SameB.mk (by with_reducible rfl) | exact LeN.mk (by with_reducible exact Nat.le_refl _) | apply SameI.mk | apply SameN.mk | apply SameL.mk | apply SameB.mk | apply LeN.mk
    all_goals first | rfl | exact (ofN_succ _).symm | (simp only [toNat_ofN, NX.v, IX.v, Nat.le_refl]; done) | ((try simp only [toNat_ofN, NX.v, IX.v, nadd, nsub]); omega) | skip
    show false = validDealB _
    simp [validDealB, show ¬ rs < 31 from of_decide_eq_false c5]
  have c5 : rs < 31 := lt_t.1 c5
  cbv
  refine ⟨t, ht, Ent.of_wvs ?_, trivial, ?_⟩
  · cbv
    repeat' first | apply And.intro | exact trivial | exact SameI.mk (by with_reducible rfl) | exact SameN.mk (by with_reducible rfl) | exact SameL.mk (by with_reducible rfl) | exact SameB.mk (by with_reducible rfl) | exact LeN.mk (by with_reducible exact Nat.le_refl _) | apply SameI.mk | apply SameN.mk | apply SameL.mk | apply SameB.mk | apply LeN.mk
    all_goals first | rfl | exact (ofN_succ _).symm | (simp only [toNat_ofN, NX.v, IX.v, Nat.le_refl]; done) | ((try simp only [toNat_ofN, NX.v, IX.v, nadd, nsub]); omega) | skip
  cbv
  refine .mk _ _ h2 ?_ ?_
  all_goals cbv
  all_goals repeat' first | apply And.intro | exact trivial | exact SameI.mk (by with_reducible rfl) | exact SameN.mk (by with_reducible rfl) | exact SameL.mk (by with_reducible rfl) | exact SameB.mk (by with_reducible rfl) | exact LeN.mk (by with_reducible exact Nat.le_refl _) | apply SameI.mk | apply SameN.mk | apply SameL.mk | apply SameB.mk | apply LeN.mk
  all_goals first | rfl | exact (ofN_succ _).symm | (simp only [toNat_ofN, NX.v, IX.v, Nat.le_refl]; done) | ((try simp only [toNat_ofN, NX.v, IX.v, nadd, nsub]); omega) | skip
  show (!anyGe 2147483648 31 t) = validDealB _
  simp [validDealB, c1, c2, c3, c4, c5]
end Go.Proofs.Ytlgmbpnlakjefaa
