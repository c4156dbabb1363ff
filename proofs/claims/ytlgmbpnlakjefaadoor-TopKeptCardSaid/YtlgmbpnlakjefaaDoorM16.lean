/- Put together by a program of this work out of its texts KpA, KpB, KpC. -/
import Derived.Test.YtlgmbpnlakjefaaDoorM15
section
/- Contracts: lengths and ones of words, kinds of codes, rests, code words. -/
namespace Go.Proofs.YtlgmbpnlakjefaaDoor
open Go.Sy
set_option maxRecDepth 100000
set_option maxHeartbeats 1000000
set_option linter.unusedSimpArgs false
set_option linter.unusedVariables false
def lenS : ByteArray := ⟨#[0, 1, 2, 2, 3, 3, 3, 3, 4, 4, 4, 4, 4, 4, 4, 4, 5, 5, 5, 5, 5, 5, 5, 5, 5, 5, 5, 5, 5, 5, 5, 5, 6, 6, 6, 6, 6, 6, 6, 6, 6, 6, 6, 6, 6, 6, 6, 6, 6, 6, 6, 6, 6, 6, 6, 6, 6, 6, 6, 6, 6, 6, 6, 6, 7, 7, 7, 7, 7, 7, 7, 7, 7, 7, 7, 7, 7, 7, 7, 7, 7, 7, 7, 7, 7, 7, 7, 7, 7, 7, 7, 7, 7, 7, 7, 7, 7, 7, 7, 7, 7, 7, 7, 7, 7, 7, 7, 7, 7, 7, 7, 7, 7, 7, 7, 7, 7, 7, 7, 7, 7, 7, 7, 7, 7, 7, 7, 7, 8, 8, 8, 8, 8, 8, 8, 8, 8, 8, 8, 8, 8, 8, 8, 8, 8, 8, 8, 8, 8, 8, 8, 8, 8, 8, 8, 8, 8, 8, 8, 8, 8, 8, 8, 8, 8, 8, 8, 8, 8, 8, 8, 8, 8, 8, 8, 8, 8, 8, 8, 8, 8, 8, 8, 8, 8, 8, 8, 8, 8, 8, 8, 8, 8, 8, 8, 8, 8, 8, 8, 8, 8, 8, 8, 8, 8, 8, 8, 8, 8, 8, 8, 8, 8, 8, 8, 8, 8, 8, 8, 8, 8, 8, 8, 8, 8, 8, 8, 8, 8, 8, 8, 8, 8, 8, 8, 8, 8, 8, 8, 8, 8, 8, 8, 8, 8, 8, 8, 8, 8, 8, 8, 8, 8, 8, 8, 8]⟩
def popS : ByteArray := ⟨#[0, 1, 1, 2, 1, 2, 2, 3, 1, 2, 2, 3, 2, 3, 3, 4, 1, 2, 2, 3, 2, 3, 3, 4, 2, 3, 3, 4, 3, 4, 4, 5, 1, 2, 2, 3, 2, 3, 3, 4, 2, 3, 3, 4, 3, 4, 4, 5, 2, 3, 3, 4, 3, 4, 4, 5, 3, 4, 4, 5, 4, 5, 5, 6, 1, 2, 2, 3, 2, 3, 3, 4, 2, 3, 3, 4, 3, 4, 4, 5, 2, 3, 3, 4, 3, 4, 4, 5, 3, 4, 4, 5, 4, 5, 5, 6, 2, 3, 3, 4, 3, 4, 4, 5, 3, 4, 4, 5, 4, 5, 5, 6, 3, 4, 4, 5, 4, 5, 5, 6, 4, 5, 5, 6, 5, 6, 6, 7, 1, 2, 2, 3, 2, 3, 3, 4, 2, 3, 3, 4, 3, 4, 4, 5, 2, 3, 3, 4, 3, 4, 4, 5, 3, 4, 4, 5, 4, 5, 5, 6, 2, 3, 3, 4, 3, 4, 4, 5, 3, 4, 4, 5, 4, 5, 5, 6, 3, 4, 4, 5, 4, 5, 5, 6, 4, 5, 5, 6, 5, 6, 6, 7, 2, 3, 3, 4, 3, 4, 4, 5, 3, 4, 4, 5, 4, 5, 5, 6, 3, 4, 4, 5, 4, 5, 5, 6, 4, 5, 5, 6, 5, 6, 6, 7, 3, 4, 4, 5, 4, 5, 5, 6, 4, 5, 5, 6, 5, 6, 6, 7, 4, 5, 5, 6, 5, 6, 6, 7, 5, 6, 6, 7, 6, 7, 7, 8]⟩
theorem len_all : (List.range 256).all (fun n => byteAt lenS n == ofN (blen n)) = true := by decide +kernel
theorem pop_all : (List.range 256).all (fun n => byteAt popS n == ofN (popN n 8)) = true := by decide +kernel
theorem len_tab {n : Nat} (h : n < 256) : byteAt lenS n = ofN (blen n) := by simpa using List.all_eq_true.1 len_all n (List.mem_range.2 h)
theorem pop_tab {n : Nat} (h : n < 256) : byteAt popS n = ofN (popN n 8) := by simpa using List.all_eq_true.1 pop_all n (List.mem_range.2 h)
theorem cut8 (n : Nat) : IntKind.u8.wrap (ofN n) = ofN (n % 256) := by
  simp only [IntKind.wrap, IntKind.signed, IntKind.bits, ofN]; simp
theorem wrap_i64 {n : Int} (h : -9223372036854775808 ≤ n ∧ n ≤ 9223372036854775807) : IntKind.i64.wrap n = n := wrap_inR (inR64 h)
def cLen16 : Con := con (fun w : Nat => [.int .u16 (.t fun _ => ofN w)]) (fun _ => []) (fun w => w < 65536) (fun w K => K (.int .i64 (.t fun _ => ofN (blen w))) [])
theorem s41 : Sound Tryd.prog 41 cLen16 := by
  refine k41.con tabOk envOk_nil mixed o41 fun w K hw h2 => ?_
  have h0 := ofN_nonneg w
  have e1 : aop (.shr .u16) (ofN w) 8 = ofN (w / 256) := shr16 (i := 8) (by decide)
  cbv
  refine Br.mk (fun c => ?_) (fun c => ?_)
  · have c : 256 ≤ w := by have : 256 ≤ ofN w := ge_t.1 c; simp only [ofN] at this; omega
    have hb := blen_shift c
    have hi : IntKind.u8.wrap (aop (.shr .u16) (ofN w) 8) = ofN (w / 256) := by rw [e1, cut8, Nat.mod_eq_of_lt (by omega)]
    have hl : byteAt lenS (w / 256) = ofN (blen (w / 256)) := len_tab (by omega)
    have hle : blen (w / 256) ≤ 8 := blen_le.2 (by omega)
    have hv : aop .add 8 (IntKind.i64.wrap (byteAt lenS (IntKind.u8.wrap (aop (.shr .u16) (ofN w) 8)).toNat)) = ofN (blen w) := by
      rw [hi, toNat_ofN, hl, wrap_i64 (by simp only [ofN]; omega), hb, aop_add]; simp only [ofN]; omega
    cbv
    refine Chk.mk ((by rw [hi]; exact ofN_in (by omega))) ?_
    cbv
    refine Chk.mk (inR64 (by show _ ≤ aop .add 8 (IntKind.i64.wrap (byteAt lenS (IntKind.u8.wrap (aop (.shr .u16) (ofN w) 8)).toNat)) ∧ aop .add 8 (IntKind.i64.wrap (byteAt lenS (IntKind.u8.wrap (aop (.shr .u16) (ofN w) 8)).toNat)) ≤ _; rw [hv, hb]; simp only [ofN]; omega)) ?_
    cbv
    refine .mk _ _ h2 ?_ ?_
    all_goals cbv
    all_goals repeat' first | apply And.intro | exact trivial | exact SameI.mk (by with_reducible rfl) | exact SameN.mk (by with_reducible rfl) | exact SameL.mk (by with_reducible rfl) | exact SameB.mk (by with_reducible rfl) | exact LeN.mk (by with_reducible exact Nat.le_refl _) | apply SameI.mk | apply SameN.mk | apply SameL.mk | apply SameB.mk | apply LeN.mk
    all_goals first | rfl | exact (ofN_succ _).symm | (simp only [toNat_ofN, NX.v, IX.v, Nat.le_refl]; done) | ((try simp only [toNat_ofN, NX.v, IX.v, nadd, nsub]); omega) | skip
    exact hv
  · have c : w < 256 := by have : ¬ 256 ≤ ofN w := ge_f.1 c; simp only [ofN] at this; omega
    have hi : IntKind.u8.wrap (ofN w) = ofN w := by rw [cut8, Nat.mod_eq_of_lt c]
    have hl : byteAt lenS w = ofN (blen w) := len_tab c
    have hle : blen w ≤ 8 := blen_le.2 (by omega)
    have hv : aop .add 0 (IntKind.i64.wrap (byteAt lenS (IntKind.u8.wrap (ofN w)).toNat)) = ofN (blen w) := by
      rw [hi, toNat_ofN, hl, wrap_i64 (by simp only [ofN]; omega), aop_add]; simp only [ofN]; omega
    cbv
    refine Chk.mk ((by rw [hi]; exact ofN_in (by omega))) ?_
    cbv
    refine Chk.mk (inR64 (by show _ ≤ aop .add 0 (IntKind.i64.wrap (byteAt lenS (IntKind.u8.wrap (ofN w)).toNat)) ∧ aop .add 0 (IntKind.i64.wrap (byteAt lenS (IntKind.u8.wrap (ofN w)).toNat)) ≤ _; rw [hv]; simp only [ofN]; omega)) ?_
    cbv
    refine .mk _ _ h2 ?_ ?_
    all_goals cbv
    all_goals repeat' first | apply And.intro | exact trivial | exact SameI.mk (by with_reducible rfl) | exact SameN.mk (by with_reducible rfl) | exact SameL.mk (by with_reducible rfl) | exact SameB.mk (by with_reducible rfl) | exact LeN.mk (by with_reducible exact Nat.le_refl _) | apply SameI.mk | apply SameN.mk | apply SameL.mk | apply SameB.mk | apply LeN.mk
    all_goals first | rfl | exact (ofN_succ _).symm | (simp only [toNat_ofN, NX.v, IX.v, Nat.le_refl]; done) | ((try simp only [toNat_ofN, NX.v, IX.v, nadd, nsub]); omega) | skip
    exact hv
def cOnes16 : Con := con (fun w : Nat => [.int .u16 (.t fun _ => ofN w)]) (fun _ => []) (fun w => w < 65536) (fun w K => K (.int .i64 (.t fun _ => ofN (popN w 16))) [])
theorem pop16 (w : Nat) : popN w 16 = popN (w / 256) 8 + popN (w % 256) 8 := by
  rw [show (16 : Nat) = 8 + 8 from rfl, popN_split, popN_mod w 8 8 (Nat.le_refl _)]; exact Nat.add_comm _ _
theorem s33 : Sound Tryd.prog 33 cOnes16 := by
  refine k33.con tabOk envOk_nil mixed o33 fun w K hw h2 => ?_
  have e1 : aop (.shr .u16) (ofN w) 8 = ofN (w / 256) := shr16 (i := 8) (by decide)
  have e2 : aop (.bits .and .u16) (ofN w) 255 = ofN (w % 256) := by
    rw [show (255 : Int) = ofN 255 from rfl, and16 hw (by decide), show (255 : Nat) = 2 ^ 8 - 1 from rfl, Nat.and_two_pow_sub_one_eq_mod]
  have t1 := pop_tab (n := w / 256) (by omega)
  have t2 := pop_tab (n := w % 256) (by omega)
  have l1 := popN_le (w / 256) 8
  have l2 := popN_le (w % 256) 8
  have hv : IntKind.i64.wrap (IntKind.u8.wrap (aop .add (byteAt popS (aop (.shr .u16) (ofN w) 8).toNat) (byteAt popS (aop (.bits .and .u16) (ofN w) 255).toNat))) = ofN (popN w 16) := by
    rw [e1, e2, toNat_ofN, toNat_ofN, t1, t2, aop_add, pop16]
    rw [show ofN (popN (w / 256) 8) + ofN (popN (w % 256) 8) = ofN (popN (w / 256) 8 + popN (w % 256) 8) by simp only [ofN]; omega, cut8, Nat.mod_eq_of_lt (by omega), wrap_i64 (by simp only [ofN]; omega)]
  cbv
  refine Chk.mk ((by rw [e1]; exact ofN_in (by omega))) ?_
  cbv
  refine Chk.mk ((by rw [e2]; exact ofN_in (by omega))) ?_
  cbv
  refine .mk _ _ h2 ?_ ?_
  all_goals cbv
  all_goals repeat' first | apply And.intro | exact trivial | exact SameI.mk (by with_reducible rfl) | exact SameN.mk (by with_reducible rfl) | exact SameL.mk (by with_reducible rfl) | exact SameB.mk (by with_reducible rfl) | exact LeN.mk (by with_reducible exact Nat.le_refl _) | apply SameI.mk | apply SameN.mk | apply SameL.mk | apply SameB.mk | apply LeN.mk
  all_goals first | rfl | exact (ofN_succ _).symm | (simp only [toNat_ofN, NX.v, IX.v, Nat.le_refl]; done) | ((try simp only [toNat_ofN, NX.v, IX.v, nadd, nsub]); omega) | skip
  exact hv
def gI (kd : Nat) : Int := ofN (gN kd)
/-- a kind of codes, as the program has it -/
def codeC (kd : Nat) : List AV := [.int .u16 (.t fun _ => ofN (gN kd)), .int .i64 (.t fun _ => ofN (kdN kd)), .int .i64 (.t fun _ => ofN (tN kd))]
def cKind : Con := con (fun kd : Nat => [.int .u8 (.t fun _ => ofN kd)]) (fun _ => []) Kind3 (fun kd K => K (.tuple [.agg (codeC kd), .bool (.l true)]) [])
theorem s25 : Sound Tryd.prog 25 cKind := by
  refine k25.con tabOk envOk_nil mixed o25 fun kd K hk h2 => ?_
  have hk1 : 1 ≤ kd ∧ kd ≤ 3 := by rcases hk with rfl | rfl | rfl <;> decide
  have e1 : IntKind.i64.wrap (ofN kd) = ofN kd := wrap_i64 (by simp only [ofN]; omega)
  cbv
  refine Br.f (fun c => ?_) (fun c => ?_)
  · have : ofN kd < 1 := lt_t.1 c
    simp only [ofN] at this; omega
  cbv
  refine Br.f (fun c => ?_) (fun c => ?_)
  · have : 4 ≤ IntKind.i64.wrap (ofN kd) := ge_t.1 c
    rw [e1] at this
    simp only [ofN] at this; omega
  cbv
  refine Chk.mk (ofN_in (by omega)) ?_
  cbv
  refine Chk.mk ((by rw [toNat_ofN]; exact ofN_in (by omega))) ?_
  cbv
  refine .mk _ _ h2 ?_ ?_
  all_goals cbv
  all_goals repeat' first | apply And.intro | exact trivial | exact SameI.mk (by with_reducible rfl) | exact SameN.mk (by with_reducible rfl) | exact SameL.mk (by with_reducible rfl) | exact SameB.mk (by with_reducible rfl) | exact LeN.mk (by with_reducible exact Nat.le_refl _) | apply SameI.mk | apply SameN.mk | apply SameL.mk | apply SameB.mk | apply LeN.mk
  all_goals first | rfl | exact (ofN_succ _).symm | (simp only [toNat_ofN, NX.v, IX.v, Nat.le_refl]; done) | ((try simp only [toNat_ofN, NX.v, IX.v, nadd, nsub]); omega) | skip
  all_goals (rw [toNat_ofN]; rcases hk with rfl | rfl | rfl <;> rfl)
def cRest : Con := con (fun x : Nat × Nat => [.agg (codeC x.1), .int .u16 (.t fun _ => ofN x.2)]) (fun _ => []) (fun x => Kind3 x.1 ∧ x.2 < 32768) (fun x K => K (.int .u16 (.t fun _ => ofN (restL x.1 x.2))) [])
theorem f1 : EnvOk Tryd.prog (env [(41, cLen16)]) := envOk_cons envOk_nil s41 k41.callable
theorem s27 : Sound Tryd.prog 27 cRest := by
  refine k27.con tabOk f1 mixed o27 fun x K hx h2 => ?_
  obtain ⟨kd, w0⟩ := x
  have hk : Kind3 kd := hx.1
  have hw : w0 < 32768 := hx.2
  obtain ⟨g1, g2, g3⟩ := gN_bits hk
  have ef : aop .sub 15 (ofN (kdN kd)) = ofN (fN kd) := by rw [aop_sub]; simp only [ofN]; omega
  have hf15 : fN kd ≤ 15 := by omega
  have hg16 : gN kd < 65536 := by have : 2 ^ (fN kd + 1) ≤ 2 ^ 16 := Nat.pow_le_pow_right (by decide) (by omega); have : (2 : Nat) ^ 16 = 65536 := rfl; omega
  cbv
  refine Chk.mk (inR64 (by rw [ef]; simp only [ofN]; omega)) ?_
  cbv
  refine loop_inv [1, 2, 5] (fun (w : Nat) => w < 32768 ∧ restL kd w = restL kd w0) (fun w => ⟨[.undef, .int .u16 (.t fun _ => ofN w), .ptr 0 (.l 0) (.l 0), .undef, .undef, .int .i64 (.t fun _ => ofN (fN kd)), .undef, .undef, .undef, .undef, .undef, .undef, .undef, .undef, .undef, .undef, .undef, .undef, .undef, .undef, .undef, .undef, .undef, .undef], [some ⟨true, .cells (codeC kd)⟩]⟩) (fun w => w) w0 ⟨hw, rfl⟩ ?_ ?_
  · cbv
    repeat' first | apply And.intro | exact trivial | exact SameI.mk (by with_reducible rfl) | exact SameN.mk (by with_reducible rfl) | exact SameL.mk (by with_reducible rfl) | exact SameB.mk (by with_reducible rfl) | exact LeN.mk (by with_reducible exact Nat.le_refl _) | apply SameI.mk | apply SameN.mk | apply SameL.mk | apply SameB.mk | apply LeN.mk
    all_goals first | rfl | exact (ofN_succ _).symm | (simp only [toNat_ofN, NX.v, IX.v, Nat.le_refl]; done) | ((try simp only [toNat_ofN, NX.v, IX.v, nadd, nsub]); omega) | skip
  · intro w R ⟨hw2, hr2⟩ hR
    cbv
    refine ⟨w, by show w < 65536; omega, Ent.of_wvs ?_, trivial, ?_⟩
    · cbv
      repeat' first | apply And.intro | exact trivial | exact SameI.mk (by with_reducible rfl) | exact SameN.mk (by with_reducible rfl) | exact SameL.mk (by with_reducible rfl) | exact SameB.mk (by with_reducible rfl) | exact LeN.mk (by with_reducible exact Nat.le_refl _) | apply SameI.mk | apply SameN.mk | apply SameL.mk | apply SameB.mk | apply LeN.mk
      all_goals first | rfl | exact (ofN_succ _).symm | (simp only [toNat_ofN, NX.v, IX.v, Nat.le_refl]; done) | ((try simp only [toNat_ofN, NX.v, IX.v, nadd, nsub]); omega) | skip
    cbv
    refine Br.mk (fun hc => ?_) (fun hc => ?_)
    · have hb : fN kd < blen w := by have := gt_t.1 hc; exact ofN_lt.1 this
      obtain ⟨q1, q2, q3, q4⟩ := step_lt hk hw2 hb
      have q5 := step_rest hk hw2 hb
      obtain ⟨j, hj⟩ : ∃ j, j = blen w - fN kd - 1 := ⟨_, rfl⟩
      have e1 : aop .sub (ofN (blen w)) (ofN (fN kd)) = ofN (j + 1) := by rw [aop_sub]; simp only [ofN]; omega
      have e2 : aop .sub (ofN (j + 1)) 1 = ofN j := by rw [aop_sub]; simp only [ofN]; omega
      rw [← hj] at q1 q2 q3 q5
      have e3 : aop (.shl .u16) (ofN (gN kd)) (ofN j) = ofN (gN kd * 2 ^ j) := shl16 (by omega) (by omega)
      have e4 : aop (.bits .xor .u16) (ofN w) (ofN (gN kd * 2 ^ j)) = ofN (w ^^^ (gN kd * 2 ^ j)) := xor16 (by omega) (by omega)
      cbv
      refine ⟨w, by show w < 65536; omega, Ent.of_wvs ?_, trivial, ?_⟩
      · cbv
        repeat' first | apply And.intro | exact trivial | exact SameI.mk (by with_reducible rfl) | exact SameN.mk (by with_reducible rfl) | exact SameL.mk (by with_reducible rfl) | exact SameB.mk (by with_reducible rfl) | exact LeN.mk (by with_reducible exact Nat.le_refl _) | apply SameI.mk | apply SameN.mk | apply SameL.mk | apply SameB.mk | apply LeN.mk
        all_goals first | rfl | exact (ofN_succ _).symm | (simp only [toNat_ofN, NX.v, IX.v, Nat.le_refl]; done) | ((try simp only [toNat_ofN, NX.v, IX.v, nadd, nsub]); omega) | skip
      cbv
      refine Chk.mk (inR64 (by rw [e1]; simp only [ofN]; omega)) ?_
      cbv
      refine Chk.mk (inR64 (by rw [e1, e2]; simp only [ofN]; omega)) ?_
      cbv
      refine Chk.mk ((by rw [e1, e2]; exact ofN_nonneg _)) ?_
      cbv
      refine .mk (hR (w ^^^ (gN kd * 2 ^ j)) _ ⟨by omega, q5.trans hr2⟩ q1 ?_)
      cbv
      repeat' first | apply And.intro | exact trivial | exact SameI.mk (by with_reducible rfl) | exact SameN.mk (by with_reducible rfl) | exact SameL.mk (by with_reducible rfl) | exact SameB.mk (by with_reducible rfl) | exact LeN.mk (by with_reducible exact Nat.le_refl _) | apply SameI.mk | apply SameN.mk | apply SameL.mk | apply SameB.mk | apply LeN.mk
      all_goals first | rfl | exact (ofN_succ _).symm | (simp only [toNat_ofN, NX.v, IX.v, Nat.le_refl]; done) | ((try simp only [toNat_ofN, NX.v, IX.v, nadd, nsub]); omega) | skip
      rw [e1, e2, e3, e4]
    · have hb : blen w ≤ fN kd := by have := gt_f.1 hc; rw [ofN_lt] at this; omega
      have hv : w = restL kd w0 := by rw [← hr2, restL_low hk (blen_le.1 hb)]
      cbv
      refine .mk ?_
      cbv
      refine .mk _ _ h2 ?_ ?_
      all_goals cbv
      all_goals repeat' first | apply And.intro | exact trivial | exact SameI.mk (by with_reducible rfl) | exact SameN.mk (by with_reducible rfl) | exact SameL.mk (by with_reducible rfl) | exact SameB.mk (by with_reducible rfl) | exact LeN.mk (by with_reducible exact Nat.le_refl _) | apply SameI.mk | apply SameN.mk | apply SameL.mk | apply SameB.mk | apply LeN.mk
      all_goals first | rfl | exact (ofN_succ _).symm | (simp only [toNat_ofN, NX.v, IX.v, Nat.le_refl]; done) | ((try simp only [toNat_ofN, NX.v, IX.v, nadd, nsub]); omega) | skip
      exact congrArg ofN hv
def codeN (kd m : Nat) : Nat := (m * 2 ^ fN kd) ||| restL kd (m * 2 ^ fN kd)
def cEncode : Con := con (fun x : Nat × Nat => [.agg (codeC x.1), .int .u16 (.t fun _ => ofN x.2)]) (fun _ => []) (fun x => Kind3 x.1 ∧ x.2 < 2 ^ kdN x.1) (fun x K => K (.int .u16 (.t fun _ => ofN (codeN x.1 x.2))) [])
theorem f2 : EnvOk Tryd.prog (env [(27, cRest)]) := envOk_cons envOk_nil s27 k27.callable
theorem s30 : Sound Tryd.prog 30 cEncode := by
  refine k30.con tabOk f2 mixed o30 fun x K hx h2 => ?_
  obtain ⟨kd, m⟩ := x
  have hk : Kind3 kd := hx.1
  have hm : m < 2 ^ kdN kd := hx.2
  obtain ⟨g1, g2, g3⟩ := gN_bits hk
  have ef : aop .sub 15 (ofN (kdN kd)) = ofN (fN kd) := by rw [aop_sub]; simp only [ofN]; omega
  have hm2 : m * 2 ^ fN kd < 32768 := by
    have : m * 2 ^ fN kd < 2 ^ kdN kd * 2 ^ fN kd := Nat.mul_lt_mul_of_pos_right hm (Nat.two_pow_pos _)
    rw [← Nat.pow_add, show kdN kd + fN kd = 15 by omega] at this
    exact this
  have e1 : aop (.shl .u16) (ofN m) (ofN (fN kd)) = ofN (m * 2 ^ fN kd) := shl16 (by omega) (by omega)
  have hl : restL kd (m * 2 ^ fN kd) < 65536 := by
    have := restL_lt hk (m * 2 ^ fN kd)
    have : 2 ^ fN kd ≤ 2 ^ 16 := Nat.pow_le_pow_right (by decide) (by omega)
    have : (2 : Nat) ^ 16 = 65536 := rfl
    omega
  have e2 : aop (.bits .or .u16) (ofN (m * 2 ^ fN kd)) (ofN (restL kd (m * 2 ^ fN kd))) = ofN (codeN kd m) := or16 (by omega) hl
  obtain ⟨v, hv⟩ : ∃ v, v = m * 2 ^ fN kd := ⟨_, rfl⟩
  rw [← hv] at e1 e2 hm2
  cbv
  refine Chk.mk (inR64 (by rw [ef]; simp only [ofN]; omega)) ?_
  cbv
  refine Chk.mk ((by rw [ef]; exact ofN_nonneg _)) ?_
  cbv
  refine ⟨(kd, v), ⟨hk, hm2⟩, Ent.of_wvs ?_, trivial, ?_⟩
  · cbv
    repeat' first | apply And.intro | exact trivial | exact SameI.mk (by with_reducible rfl) | exact SameN.mk (by with_reducible rfl) | exact SameL.mk (by with_reducible rfl) | exact SameB.mk (by with_reducible rfl) | exact LeN.mk (by with_reducible exact Nat.le_refl _) | apply SameI.mk | apply SameN.mk | apply SameL.mk | apply SameB.mk | apply LeN.mk
    all_goals first | rfl | exact (ofN_succ _).symm | (simp only [toNat_ofN, NX.v, IX.v, Nat.le_refl]; done) | ((try simp only [toNat_ofN, NX.v, IX.v, nadd, nsub]); omega) | skip
    rw [ef, e1]
  cbv
  refine .mk _ _ h2 ?_ ?_
  all_goals cbv
  all_goals repeat' first | apply And.intro | exact trivial | exact SameI.mk (by with_reducible rfl) | exact SameN.mk (by with_reducible rfl) | exact SameL.mk (by with_reducible rfl) | exact SameB.mk (by with_reducible rfl) | exact LeN.mk (by with_reducible exact Nat.le_refl _) | apply SameI.mk | apply SameN.mk | apply SameL.mk | apply SameB.mk | apply LeN.mk
  all_goals first | rfl | exact (ofN_succ _).symm | (simp only [toNat_ofN, NX.v, IX.v, Nat.le_refl]; done) | ((try simp only [toNat_ofN, NX.v, IX.v, nadd, nsub]); omega) | skip
  rw [ef, e1, e2]
end Go.Proofs.YtlgmbpnlakjefaaDoor
end

section
/- Contracts: the search for the least word with a rest (a closure that calls itself), decoding. -/
namespace Go.Proofs.YtlgmbpnlakjefaaDoor
open Go.Sy
set_option maxRecDepth 100000
set_option maxHeartbeats 1000000
set_option linter.unusedSimpArgs false
set_option linter.unusedVariables false
structure FindX where
  kd : Nat
  s : Nat
  e : Nat
  from_ : Nat
  left : Nat
/-- what the search hands back -/
def optV : Option Nat → Nat
  | some x => x
  | none => 0
def optB : Option Nat → Bool
  | some _ => true
  | none => false
def findHeap (kd s : Nat) : Heap := [some ⟨true, .cells [.func (.func 27) [.agg (codeC kd)] []]⟩, some ⟨true, .cells [.int .u16 (.t fun _ => ofN s)]⟩, some ⟨true, .cells [.func (.func 45) [] [.ptr 0 (.l 0) (.l 0), .ptr 1 (.l 0) (.l 0), .ptr 2 (.l 0) (.l 0)]]⟩]
def tryL (kd s l e n i : Nat) : Option Nat :=
  match l with
  | 0 => none
  | l + 1 => tryF (findF kd s l) e n i
theorem findF_ne {kd s l e fr : Nat} (c : restL kd e ≠ s) : findF kd s l e fr = tryL kd s l e (15 - fr) fr := by cases l <;> simp [findF, tryL, c]
theorem shl16_one {i : Nat} (h : i < 15) : aop (.shl .u16) 1 (ofN i) = ofN (2 ^ i) := by
  have := shl16 (a := 1) (i := i) (by omega) (by rw [Nat.one_mul]; exact Nat.lt_of_lt_of_le (Nat.pow_lt_pow_right (by decide) h) (show 2 ^ 15 ≤ 65536 by decide))
  rwa [Nat.one_mul] at this
def FindX.ok (x : FindX) : Prop := Kind3 x.kd ∧ x.s < 32768 ∧ x.e < 2 ^ x.from_ ∧ x.from_ ≤ 15 ∧ x.left ≤ 15
def cFind (n : Nat) : Con := con (fun x : FindX => [.int .u16 (.t fun _ => ofN x.e), .int .i64 (.t fun _ => ofN x.from_), .int .i64 (.t fun _ => ofN x.left), .ptr 0 (.l 0) (.l 0), .ptr 1 (.l 0) (.l 0), .ptr 2 (.l 0) (.l 0)]) (fun x => findHeap x.kd x.s) (fun x => x.ok ∧ x.left < n)
  (fun x K => K (.tuple [.int .u16 (.t fun _ => ofN (optV (findF x.kd x.s x.left x.e x.from_))), .bool (.t fun _ => optB (findF x.kd x.s x.left x.e x.from_))]) (findHeap x.kd x.s))
theorem s_find : ∀ n, Sound Tryd.prog 45 (cFind n)
  | 0 => by
    intro s h args vals K hh hv ⟨x, ⟨_, h1⟩, _⟩
    exact absurd h1 (Nat.not_lt_zero _)
  | n + 1 => by
    have fe : EnvOk Tryd.prog (env [(27, cRest), (45, cFind n)]) := envOk_cons (envOk_cons envOk_nil (s_find n) k45.callable) s27 k27.callable
    refine k45.con tabOk fe mixed o45 fun x K hx h2 => ?_
    obtain ⟨kd, s, e, fr, l⟩ := x
    have hk : Kind3 kd := hx.1.1
    have hs : s < 32768 := hx.1.2.1
    have he : e < 2 ^ fr := hx.1.2.2.1
    have hf : fr ≤ 15 := hx.1.2.2.2.1
    have hl : l ≤ 15 := hx.1.2.2.2.2
    have hn : l < n + 1 := hx.2
    have he15 : e < 32768 := Nat.lt_of_lt_of_le he (show 2 ^ fr ≤ 2 ^ 15 from Nat.pow_le_pow_right (by decide) hf)
    obtain ⟨r, hr⟩ : ∃ r, r = findF kd s l e fr := ⟨_, rfl⟩
    replace h2 : K (.tuple [.int .u16 (.t fun _ => ofN (optV r)), .bool (.t fun _ => optB r)]) (findHeap kd s) := by rw [hr]; exact h2
    clear hx
    cbv
    refine ⟨(kd, e), ⟨hk, he15⟩, Ent.of_wvs ?_, trivial, ?_⟩
    · cbv
      repeat' first | apply And.intro | exact trivial | exact SameI.mk (by with_reducible rfl) | exact SameN.mk (by with_reducible rfl) | exact SameL.mk (by with_reducible rfl) | exact SameB.mk (by with_reducible rfl) | exact LeN.mk (by with_reducible exact Nat.le_refl _) | apply SameI.mk | apply SameN.mk | apply SameL.mk | apply SameB.mk | apply LeN.mk
      all_goals first | rfl | exact (ofN_succ _).symm | (simp only [toNat_ofN, NX.v, IX.v, Nat.le_refl]; done) | ((try simp only [toNat_ofN, NX.v, IX.v, nadd, nsub]); omega) | skip
    cbv
    refine Br.mk (fun c => ?_) (fun c => ?_)
    · have c : restL kd e = s := ofN_inj (eq_t.1 c)
      have hr2 : r = some e := by rw [hr]; cases l <;> simp [findF, c]
      rw [hr2] at h2
      cbv
      refine .mk _ _ h2 ?_ ?_
      all_goals cbv
      all_goals repeat' first | apply And.intro | exact trivial | exact SameI.mk (by with_reducible rfl) | exact SameN.mk (by with_reducible rfl) | exact SameL.mk (by with_reducible rfl) | exact SameB.mk (by with_reducible rfl) | exact LeN.mk (by with_reducible exact Nat.le_refl _) | apply SameI.mk | apply SameN.mk | apply SameL.mk | apply SameB.mk | apply LeN.mk
      all_goals first | rfl | exact (ofN_succ _).symm | (simp only [toNat_ofN, NX.v, IX.v, Nat.le_refl]; done) | ((try simp only [toNat_ofN, NX.v, IX.v, nadd, nsub]); omega) | skip
    · have c : restL kd e ≠ s := fun h => eq_f.1 c (congrArg ofN h)
      have hr2 : tryL kd s l e (15 - fr) fr = r := by rw [hr, findF_ne c]
      cbv
      refine loop_inv [0, 2, 5, 11] (fun (i : Nat) => fr ≤ i ∧ i ≤ 15 ∧ tryL kd s l e (15 - i) i = r) (fun i => ⟨[.int .u16 (.t fun _ => ofN e), .undef, .int .i64 (.t fun _ => ofN l), .undef, .undef, .ptr 2 (.l 0) (.l 0), .undef, .undef, .undef, .undef, .undef, .int .i64 (.t fun _ => ofN i), .undef, .undef, .undef, .undef, .undef, .undef, .undef, .undef, .undef, .undef, .undef, .undef, .undef, .undef, .undef, .undef, .undef, .undef, .undef, .undef, .undef, .undef, .undef, .undef, .undef, .undef, .undef, .undef, .undef, .undef, .undef, .undef], findHeap kd s⟩) (fun i => 15 - i) fr ⟨Nat.le_refl _, hf, hr2⟩ ?_ ?_
      · cbv
        repeat' first | apply And.intro | exact trivial | exact SameI.mk (by with_reducible rfl) | exact SameN.mk (by with_reducible rfl) | exact SameL.mk (by with_reducible rfl) | exact SameB.mk (by with_reducible rfl) | exact LeN.mk (by with_reducible exact Nat.le_refl _) | apply SameI.mk | apply SameN.mk | apply SameL.mk | apply SameB.mk | apply LeN.mk
        all_goals first | rfl | exact (ofN_succ _).symm | (simp only [toNat_ofN, NX.v, IX.v, Nat.le_refl]; done) | ((try simp only [toNat_ofN, NX.v, IX.v, nadd, nsub]); omega) | skip
      · intro i R ⟨hi1, hi2, hi3⟩ hR
        cbv
        refine Br.mk (fun hc => ?_) (fun hc => ?_)
        · have hl0 : 0 < l := by have : (0 : Int) < ofN l := gt_t.1 hc; simp only [ofN] at this; omega
          obtain ⟨m, rfl⟩ : ∃ m, l = m + 1 := ⟨l - 1, by omega⟩
          cbv
          refine Br.mk (fun hc2 => ?_) (fun hc2 => ?_)
          · have hi4 : i < 15 := by have : ofN i < 15 := lt_t.1 hc2; simp only [ofN] at this; omega
            have hei : e < 2 ^ i := Nat.lt_of_lt_of_le he (Nat.pow_le_pow_right (by decide) hi1)
            have hp15 : 2 ^ i < 32768 := show 2 ^ i < 2 ^ 15 from Nat.pow_lt_pow_right (by decide) hi4
            have e1 := shl16_one hi4
            have e2 : aop (.bits .or .u16) (ofN e) (ofN (2 ^ i)) = ofN (e ||| 2 ^ i) := or16 (by omega) (by omega)
            have e3 : aop .add (ofN i) 1 = ofN (i + 1) := by rw [aop_add]; simp only [ofN]; omega
            have e4 : aop .sub (ofN (m + 1)) 1 = ofN m := by rw [aop_sub]; simp only [ofN]; omega
            have hu : tryL kd s (m + 1) e (15 - i) i = match findF kd s m (e ||| 2 ^ i) (i + 1) with | some x => some x | none => tryL kd s (m + 1) e (15 - (i + 1)) (i + 1) := by
              rw [show 15 - i = (15 - (i + 1)) + 1 by omega]; rfl
            rw [hu] at hi3
            obtain ⟨q, hq⟩ : ∃ q, q = findF kd s m (e ||| 2 ^ i) (i + 1) := ⟨_, rfl⟩
            rw [← hq] at hi3
            cbv
            refine Chk.mk ((ofN_nonneg i)) ?_
            cbv
            refine Chk.mk (inR64 (by rw [e3]; simp only [ofN]; omega)) ?_
            cbv
            refine Chk.mk (inR64 (by rw [e4]; simp only [ofN]; omega)) ?_
            cbv
            refine ⟨⟨kd, s, e ||| 2 ^ i, i + 1, m⟩, ⟨⟨hk, hs, show e ||| 2 ^ i < 2 ^ (i + 1) by rw [or_bit hei, Nat.pow_succ]; omega, show i + 1 ≤ 15 from hi4, show m ≤ 15 by omega⟩, show m < n by omega⟩, Ent.of_wvs ?_, ?_, ?_⟩
            · cbv
              repeat' first | apply And.intro | exact trivial | exact SameI.mk (by with_reducible rfl) | exact SameN.mk (by with_reducible rfl) | exact SameL.mk (by with_reducible rfl) | exact SameB.mk (by with_reducible rfl) | exact LeN.mk (by with_reducible exact Nat.le_refl _) | apply SameI.mk | apply SameN.mk | apply SameL.mk | apply SameB.mk | apply LeN.mk
              all_goals first | rfl | exact (ofN_succ _).symm | (simp only [toNat_ofN, NX.v, IX.v, Nat.le_refl]; done) | ((try simp only [toNat_ofN, NX.v, IX.v, nadd, nsub]); omega) | skip
              all_goals first | exact e3 | exact e4 | (rw [e1, e2])
            · cbv
              repeat' first | apply And.intro | exact trivial | exact SameI.mk (by with_reducible rfl) | exact SameN.mk (by with_reducible rfl) | exact SameL.mk (by with_reducible rfl) | exact SameB.mk (by with_reducible rfl) | exact LeN.mk (by with_reducible exact Nat.le_refl _) | apply SameI.mk | apply SameN.mk | apply SameL.mk | apply SameB.mk | apply LeN.mk
              all_goals first | rfl | exact (ofN_succ _).symm | (simp only [toNat_ofN, NX.v, IX.v, Nat.le_refl]; done) | ((try simp only [toNat_ofN, NX.v, IX.v, nadd, nsub]); omega) | skip
            cbv
            refine Br.mk (fun hb => ?_) (fun hb => ?_)
            · have hb : optB (findF kd s m (e ||| 2 ^ i) (i + 1)) = true := hb
              rw [← hq] at hb
              obtain ⟨x, hx⟩ : ∃ x, q = some x := by cases q; cases hb; exact ⟨_, rfl⟩
              have hr3 : r = some x := by rw [← hi3, hx]
              rw [hr3] at h2
              have hv : optV (findF kd s m (e ||| 2 ^ i) (i + 1)) = x := by rw [← hq, hx]; rfl
              cbv
              refine .mk ?_
              cbv
              refine .mk _ _ h2 ?_ ?_
              all_goals cbv
              all_goals repeat' first | apply And.intro | exact trivial | exact SameI.mk (by with_reducible rfl) | exact SameN.mk (by with_reducible rfl) | exact SameL.mk (by with_reducible rfl) | exact SameB.mk (by with_reducible rfl) | exact LeN.mk (by with_reducible exact Nat.le_refl _) | apply SameI.mk | apply SameN.mk | apply SameL.mk | apply SameB.mk | apply LeN.mk
              all_goals first | rfl | exact (ofN_succ _).symm | (simp only [toNat_ofN, NX.v, IX.v, Nat.le_refl]; done) | ((try simp only [toNat_ofN, NX.v, IX.v, nadd, nsub]); omega) | skip
              exact congrArg ofN hv
            · have hb : optB (findF kd s m (e ||| 2 ^ i) (i + 1)) = false := hb
              rw [← hq] at hb
              have hx : q = none := by cases q; rfl; cases hb
              rw [hx] at hi3
              cbv
              refine Chk.mk (inR64 (by rw [e3]; simp only [ofN]; omega)) ?_
              cbv
              refine .mk (hR (i + 1) _ ⟨by omega, hi4, hi3⟩ (by omega) ?_)
              cbv
              repeat' first | apply And.intro | exact trivial | exact SameI.mk (by with_reducible rfl) | exact SameN.mk (by with_reducible rfl) | exact SameL.mk (by with_reducible rfl) | exact SameB.mk (by with_reducible rfl) | exact LeN.mk (by with_reducible exact Nat.le_refl _) | apply SameI.mk | apply SameN.mk | apply SameL.mk | apply SameB.mk | apply LeN.mk
              all_goals first | rfl | exact (ofN_succ _).symm | (simp only [toNat_ofN, NX.v, IX.v, Nat.le_refl]; done) | ((try simp only [toNat_ofN, NX.v, IX.v, nadd, nsub]); omega) | skip
              all_goals exact e3
          · have hi4 : i = 15 := by have : ¬ ofN i < 15 := lt_f.1 hc2; simp only [ofN] at this; omega
            subst hi4
            have hr3 : r = none := hi3.symm
            rw [hr3] at h2
            cbv
            refine .mk ?_
            cbv
            refine .mk _ _ h2 ?_ ?_
            all_goals cbv
            all_goals repeat' first | apply And.intro | exact trivial | exact SameI.mk (by with_reducible rfl) | exact SameN.mk (by with_reducible rfl) | exact SameL.mk (by with_reducible rfl) | exact SameB.mk (by with_reducible rfl) | exact LeN.mk (by with_reducible exact Nat.le_refl _) | apply SameI.mk | apply SameN.mk | apply SameL.mk | apply SameB.mk | apply LeN.mk
            all_goals first | rfl | exact (ofN_succ _).symm | (simp only [toNat_ofN, NX.v, IX.v, Nat.le_refl]; done) | ((try simp only [toNat_ofN, NX.v, IX.v, nadd, nsub]); omega) | skip
        · have hl0 : l = 0 := by have : ¬ (0 : Int) < ofN l := gt_f.1 hc; simp only [ofN] at this; omega
          subst hl0
          have hr3 : r = none := hi3.symm
          rw [hr3] at h2
          cbv
          refine .mk ?_
          cbv
          refine .mk _ _ h2 ?_ ?_
          all_goals cbv
          all_goals repeat' first | apply And.intro | exact trivial | exact SameI.mk (by with_reducible rfl) | exact SameN.mk (by with_reducible rfl) | exact SameL.mk (by with_reducible rfl) | exact SameB.mk (by with_reducible rfl) | exact LeN.mk (by with_reducible exact Nat.le_refl _) | apply SameI.mk | apply SameN.mk | apply SameL.mk | apply SameB.mk | apply LeN.mk
          all_goals first | rfl | exact (ofN_succ _).symm | (simp only [toNat_ofN, NX.v, IX.v, Nat.le_refl]; done) | ((try simp only [toNat_ofN, NX.v, IX.v, nadd, nsub]); omega) | skip
def cError : Con := con (fun x : Nat × Nat => [.agg (codeC x.1), .int .u16 (.t fun _ => ofN x.2)]) (fun _ => []) (fun x => Kind3 x.1 ∧ x.2 < 32768)
  (fun x K => K (.tuple [.int .u16 (.t fun _ => ofN (optV (errN x.1 x.2))), .bool (.t fun _ => optB (errN x.1 x.2))]) [])
theorem f3 : EnvOk Tryd.prog (env [(45, cFind 4)]) := envOk_cons envOk_nil (s_find 4) k45.callable
theorem s32 : Sound Tryd.prog 32 cError := by
  refine k32.con tabOk f3 mixed o32 fun x K hx h2 => ?_
  obtain ⟨kd, s⟩ := x
  have hk : Kind3 kd := hx.1
  have hs : s < 32768 := hx.2
  have ht : tN kd ≤ 3 := by rcases hk with rfl | rfl | rfl <;> decide
  cbv
  refine ⟨⟨kd, s, 0, 0, tN kd⟩, ⟨⟨hk, hs, show 0 < 2 ^ 0 by decide, show 0 ≤ 15 by decide, show tN kd ≤ 15 by omega⟩, show tN kd < 4 by omega⟩, Ent.of_wvs ?_, ?_, ?_⟩
  · cbv
    repeat' first | apply And.intro | exact trivial | exact SameI.mk (by with_reducible rfl) | exact SameN.mk (by with_reducible rfl) | exact SameL.mk (by with_reducible rfl) | exact SameB.mk (by with_reducible rfl) | exact LeN.mk (by with_reducible exact Nat.le_refl _) | apply SameI.mk | apply SameN.mk | apply SameL.mk | apply SameB.mk | apply LeN.mk
    all_goals first | rfl | exact (ofN_succ _).symm | (simp only [toNat_ofN, NX.v, IX.v, Nat.le_refl]; done) | ((try simp only [toNat_ofN, NX.v, IX.v, nadd, nsub]); omega) | skip
  · cbv
    repeat' first | apply And.intro | exact trivial | exact SameI.mk (by with_reducible rfl) | exact SameN.mk (by with_reducible rfl) | exact SameL.mk (by with_reducible rfl) | exact SameB.mk (by with_reducible rfl) | exact LeN.mk (by with_reducible exact Nat.le_refl _) | apply SameI.mk | apply SameN.mk | apply SameL.mk | apply SameB.mk | apply LeN.mk
    all_goals first | rfl | exact (ofN_succ _).symm | (simp only [toNat_ofN, NX.v, IX.v, Nat.le_refl]; done) | ((try simp only [toNat_ofN, NX.v, IX.v, nadd, nsub]); omega) | skip
  cbv
  refine .mk _ _ h2 ?_ ?_
  all_goals cbv
  all_goals repeat' first | apply And.intro | exact trivial | exact SameI.mk (by with_reducible rfl) | exact SameN.mk (by with_reducible rfl) | exact SameL.mk (by with_reducible rfl) | exact SameB.mk (by with_reducible rfl) | exact LeN.mk (by with_reducible exact Nat.le_refl _) | apply SameI.mk | apply SameN.mk | apply SameL.mk | apply SameB.mk | apply LeN.mk
  all_goals first | rfl | exact (ofN_succ _).symm | (simp only [toNat_ofN, NX.v, IX.v, Nat.le_refl]; done) | ((try simp only [toNat_ofN, NX.v, IX.v, nadd, nsub]); omega) | skip
end Go.Proofs.YtlgmbpnlakjefaaDoor
end

section
/- Contracts: decoding. -/
namespace Go.Proofs.YtlgmbpnlakjefaaDoor
open Go.Sy
set_option maxRecDepth 100000
set_option maxHeartbeats 1000000
set_option linter.unusedSimpArgs false
set_option linter.unusedVariables false
def decN (kd w : Nat) : Nat := (w ^^^ optV (errN kd (restL kd w))) / 2 ^ fN kd
def cDecode : Con := con (fun x : Nat × Nat => [.agg (codeC x.1), .int .u16 (.t fun _ => ofN x.2)]) (fun _ => []) (fun x => Kind3 x.1 ∧ x.2 < 32768)
  (fun x K => K (.tuple [.int .u16 (.t fun _ => ofN (decN x.1 x.2)), .int .i64 (.t fun _ => ofN (popN (optV (errN x.1 (restL x.1 x.2))) 16)), .bool (.t fun _ => optB (errN x.1 (restL x.1 x.2)))]) [])
theorem optV_lt {kd s : Nat} : optV (errN kd s) < 32768 := by
  cases h : errN kd s with
  | none => decide
  | some x => exact err_lt h
attribute [local irreducible] errN restL popN decN
theorem f4 : EnvOk Tryd.prog (env [(27, cRest), (32, cError), (33, cOnes16)]) :=
  envOk_cons (envOk_cons (envOk_cons envOk_nil s33 k33.callable) s32 k32.callable) s27 k27.callable
theorem s34 : Sound Tryd.prog 34 cDecode := by
  refine k34.con tabOk f4 mixed o34 fun x K hx h2 => ?_
  obtain ⟨kd, w⟩ := x
  have hk : Kind3 kd := hx.1
  have hw : w < 32768 := hx.2
  have g3 : fN kd + kdN kd = 15 := (gN_bits hk).2.2
  have ef : aop .sub 15 (ofN (kdN kd)) = ofN (fN kd) := by rw [aop_sub]; simp only [ofN]; omega
  have hrl : restL kd w < 32768 := by
    have := restL_lt hk w
    have : 2 ^ fN kd ≤ 2 ^ 15 := Nat.pow_le_pow_right (by decide) (by omega)
    have : (2 : Nat) ^ 15 = 32768 := rfl
    omega
  cbv
  obtain ⟨rr, hrr⟩ : ∃ rr, rr = restL kd w := ⟨_, rfl⟩
  obtain ⟨v, hv⟩ : ∃ v, v = optV (errN kd (restL kd w)) := ⟨_, rfl⟩
  have hv15 : v < 32768 := by rw [hv]; exact optV_lt
  have hrr15 : rr < 32768 := by rw [hrr]; exact hrl
  have hv16 : v < 65536 := by omega
  have e1 : aop (.bits .xor .u16) (ofN w) (ofN v) = ofN (w ^^^ v) := xor16 (by omega) (by omega)
  have e2 : aop (.shr .u16) (ofN (w ^^^ v)) (ofN (fN kd)) = ofN (decN kd w) := by rw [shr16 (by omega), hv, decN]
  refine ⟨(kd, w), ⟨hk, hw⟩, Ent.of_wvs ?_, trivial, ?_⟩
  · cbv
    repeat' first | apply And.intro | exact trivial | exact SameI.mk (by with_reducible rfl) | exact SameN.mk (by with_reducible rfl) | exact SameL.mk (by with_reducible rfl) | exact SameB.mk (by with_reducible rfl) | exact LeN.mk (by with_reducible exact Nat.le_refl _) | apply SameI.mk | apply SameN.mk | apply SameL.mk | apply SameB.mk | apply LeN.mk
    all_goals first | rfl | exact (ofN_succ _).symm | (simp only [toNat_ofN, NX.v, IX.v, Nat.le_refl]; done) | ((try simp only [toNat_ofN, NX.v, IX.v, nadd, nsub]); omega) | skip
  cbv
  refine ⟨(kd, rr), ⟨hk, hrr15⟩, Ent.of_wvs ?_, trivial, ?_⟩
  · cbv
    repeat' first | apply And.intro | exact trivial | exact SameI.mk (by with_reducible rfl) | exact SameN.mk (by with_reducible rfl) | exact SameL.mk (by with_reducible rfl) | exact SameB.mk (by with_reducible rfl) | exact LeN.mk (by with_reducible exact Nat.le_refl _) | apply SameI.mk | apply SameN.mk | apply SameL.mk | apply SameB.mk | apply LeN.mk
    all_goals first | rfl | exact (ofN_succ _).symm | (simp only [toNat_ofN, NX.v, IX.v, Nat.le_refl]; done) | ((try simp only [toNat_ofN, NX.v, IX.v, nadd, nsub]); omega) | skip
    all_goals exact congrArg ofN hrr.symm
  cbv
  refine Chk.mk (inR64 (by rw [ef]; simp only [ofN]; omega)) ?_
  cbv
  refine Chk.mk ((by rw [ef]; exact ofN_nonneg _)) ?_
  cbv
  refine ⟨v, hv16, Ent.of_wvs ?_, trivial, ?_⟩
  · cbv
    repeat' first | apply And.intro | exact trivial | exact SameI.mk (by with_reducible rfl) | exact SameN.mk (by with_reducible rfl) | exact SameL.mk (by with_reducible rfl) | exact SameB.mk (by with_reducible rfl) | exact LeN.mk (by with_reducible exact Nat.le_refl _) | apply SameI.mk | apply SameN.mk | apply SameL.mk | apply SameB.mk | apply LeN.mk
    all_goals first | rfl | exact (ofN_succ _).symm | (simp only [toNat_ofN, NX.v, IX.v, Nat.le_refl]; done) | ((try simp only [toNat_ofN, NX.v, IX.v, nadd, nsub]); omega) | skip
    all_goals (show ofN (optV (errN kd rr)) = ofN v; rw [hrr, hv])
  cbv
  refine .mk _ _ h2 ?_ ?_
  all_goals cbv
  all_goals repeat' first | apply And.intro | exact trivial | exact SameI.mk (by with_reducible rfl) | exact SameN.mk (by with_reducible rfl) | exact SameL.mk (by with_reducible rfl) | exact SameB.mk (by with_reducible rfl) | exact LeN.mk (by with_reducible exact Nat.le_refl _) | apply SameI.mk | apply SameN.mk | apply SameL.mk | apply SameB.mk | apply LeN.mk
  all_goals first | rfl | exact (ofN_succ _).symm | (simp only [toNat_ofN, NX.v, IX.v, Nat.le_refl]; done) | ((try simp only [toNat_ofN, NX.v, IX.v, nadd, nsub]); omega) | skip
  · show aop (.shr .u16) (aop (.bits .xor .u16) (ofN w) (ofN (optV (errN kd rr)))) (aop .sub 15 (ofN (kdN kd))) = ofN (decN kd w)
    rw [ef, hrr, ← hv, e1, e2]
  · show ofN (popN v 16) = ofN (popN (optV (errN kd (restL kd w))) 16)
    rw [hv]
  · show optB (errN kd rr) = optB (errN kd (restL kd w))
    rw [hrr]
end Go.Proofs.YtlgmbpnlakjefaaDoor
end
