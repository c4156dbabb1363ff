/- Plain law: the number of ones of a word of 64 bits, as the library reckons it. -/
import Derived.Test.YtlgmbpnlakjefaaBlT
namespace Go.Proofs.Ytlgmbpnlakjefaa
open Go.Sy
set_option maxRecDepth 100000
set_option maxHeartbeats 1000000
set_option linter.unusedSimpArgs false
set_option linter.unusedVariables false
theorem popN_split (x m : Nat) : ∀ n, popN x (m + n) = popN x m + popN (x / 2 ^ m) n
  | 0 => by simp [popN]
  | n + 1 => by
    rw [show m + (n + 1) = (m + n) + 1 by omega]
    simp only [popN, popN_split x m n, Nat.testBit_div_two_pow]
    rw [Nat.add_comm n m]; omega
theorem popN_mod (x m : Nat) : ∀ n, n ≤ m → popN (x % 2 ^ m) n = popN x n
  | 0, _ => rfl
  | n + 1, h => by
    simp only [popN, popN_mod x m n (by omega), Nat.testBit_mod_two_pow]
    simp [show n < m by omega]
def rep (c : Nat) : Nat → Nat
  | 0 => 0
  | n + 1 => rep c n * 256 + c
theorem and_rep {h l M c : Nat} (hl : l < 256) (hc : c < 256) : (h * 256 + l) &&& (M * 256 + c) = (h &&& M) * 256 + (l &&& c) := by
  apply Nat.eq_of_testBit_eq
  intro i
  have hlc : l &&& c < 2 ^ 8 := Nat.lt_of_le_of_lt Nat.and_le_left hl
  rw [Nat.testBit_and, Nat.mul_comm h, Nat.mul_comm M, Nat.mul_comm (h &&& M), show 256 = 2 ^ 8 from rfl, Nat.testBit_two_pow_mul_add h (i := 8) hl, Nat.testBit_two_pow_mul_add M (i := 8) hc, Nat.testBit_two_pow_mul_add (h &&& M) hlc]
  split <;> simp [Nat.testBit_and]
def t1 (n x : Nat) : Nat := ((x / 2) &&& rep 85 n) + (x &&& rep 85 n)
def t2 (n x : Nat) : Nat := ((x / 4) &&& rep 51 n) + (x &&& rep 51 n)
def b1 (l : Nat) : Nat := ((l / 2) &&& 85) + (l &&& 85)
def b2 (l : Nat) : Nat := ((l / 4) &&& 51) + (l &&& 51)
theorem d1 : ∀ r < 2, ∀ q < 128, (r * 128 + q) &&& 85 = q &&& 85 := by decide
theorem d2 : ∀ r < 4, ∀ q < 64, (r * 64 + q) &&& 51 = q &&& 51 := by decide
theorem d3 : ∀ l < 256, b1 l < 256 ∧ b2 (b1 l) < 256 ∧ b2 (b1 l) / 16 ≤ 4 ∧ b2 (b1 l) % 16 ≤ 4 ∧ b2 (b1 l) / 16 + b2 (b1 l) % 16 = popN l 8 := by decide
theorem d4 : ∀ y < 256, y &&& 15 = y % 16 := by decide
theorem t1_step {n h l : Nat} (hl : l < 256) : t1 (n + 1) (h * 256 + l) = t1 n h * 256 + b1 l := by
  unfold t1 b1
  simp only [rep]
  rw [and_rep hl (by decide), show (h * 256 + l) / 2 = (h / 2) * 256 + ((h % 2) * 128 + l / 2) by omega, and_rep (by omega) (by decide), d1 (h % 2) (by omega) (l / 2) (by omega)]
  omega
theorem t2_step {n h l : Nat} (hl : l < 256) : t2 (n + 1) (h * 256 + l) = t2 n h * 256 + b2 l := by
  unfold t2 b2
  simp only [rep]
  rw [and_rep hl (by decide), show (h * 256 + l) / 4 = (h / 4) * 256 + ((h % 4) * 64 + l / 4) by omega, and_rep (by omega) (by decide), d2 (h % 4) (by omega) (l / 4) (by omega)]
  omega
theorem B_step {n h l : Nat} (hl : l < 256) : t2 (n + 1) (t1 (n + 1) (h * 256 + l)) = t2 n (t1 n h) * 256 + b2 (b1 l) := by
  rw [t1_step hl, t2_step (d3 l hl).1]
theorem B_low (n h : Nat) : t2 n (t1 n h) % 16 ≤ 4 := by
  cases n with
  | zero => simp [t2, rep]
  | succ n =>
    have hl : h % 256 < 256 := Nat.mod_lt _ (by decide)
    have e : h = h / 256 * 256 + h % 256 := by omega
    rw [e, B_step hl]
    have := (d3 (h % 256) hl).2.2.2.1
    omega
def t3 (n x : Nat) : Nat := (x / 16 + x) &&& rep 15 n
theorem t3_step {n h l : Nat} (hl : l < 256) (h1 : l / 16 ≤ 4) (h2 : l % 16 ≤ 4) (h3 : h % 16 ≤ 4) : t3 (n + 1) (h * 256 + l) = t3 n h * 256 + (l / 16 + l % 16) := by
  unfold t3
  simp only [rep]
  rw [show (h * 256 + l) / 16 + (h * 256 + l) = (h / 16 + h) * 256 + ((h % 16) * 16 + l / 16 + l) by omega, and_rep (by omega) (by decide), d4 _ (by omega)]
  omega
def pack : Nat → Nat → Nat
  | 0, _ => 0
  | n + 1, x => pack n (x / 256) * 256 + popN (x % 256) 8
theorem chain : ∀ (n x : Nat), t3 n (t2 n (t1 n x)) = pack n x
  | 0, x => by simp [t3, rep, pack]
  | n + 1, x => by
    have hl : x % 256 < 256 := Nat.mod_lt _ (by decide)
    obtain ⟨e1, e2, e3, e4, e5⟩ := d3 (x % 256) hl
    have e : x = x / 256 * 256 + x % 256 := by omega
    have h1 : t2 (n + 1) (t1 (n + 1) x) = t2 n (t1 n (x / 256)) * 256 + b2 (b1 (x % 256)) := by
      have := B_step (n := n) (h := x / 256) hl
      rwa [← e] at this
    rw [h1, t3_step e2 e3 e4 (B_low _ _), chain n (x / 256), e5]
    rfl
def psum : Nat → Nat → Nat
  | 0, _ => 0
  | n + 1, x => psum n (x / 256) + popN (x % 256) 8
theorem psum_pop : ∀ (n x : Nat), psum n x = popN x (8 * n)
  | 0, _ => rfl
  | n + 1, x => by
    simp only [psum]
    rw [psum_pop n, show 8 * (n + 1) = 8 + 8 * n by omega, popN_split, show (256 : Nat) = 2 ^ 8 from rfl, popN_mod _ _ _ (Nat.le_refl 8)]
    omega
theorem low_div (A k p : Nat) (h : p < k) : (A * k + p) / k = A := by
  rw [Nat.mul_comm, Nat.mul_add_div (by omega), Nat.div_eq_of_lt h, Nat.add_zero]
theorem fl1 (p0 p1 p2 p3 p4 p5 p6 p7 : Nat) : ((((((p7 * 256 + p6) * 256 + p5) * 256 + p4) * 256 + p3) * 256 + p2) * 256 + p1) * 256 + p0 = p0 + 256 * p1 + 65536 * p2 + 16777216 * p3 + 4294967296 * p4 + 1099511627776 * p5 + 281474976710656 * p6 + 72057594037927936 * p7 := by
  omega
theorem st1 (p0 p1 p2 p3 p4 p5 p6 p7 P : Nat) (h0 : p0 ≤ 8) (hP : P = p0 + 256 * p1 + 65536 * p2 + 16777216 * p3 + 4294967296 * p4 + 1099511627776 * p5 + 281474976710656 * p6 + 72057594037927936 * p7) :
    P / 256 = p1 + 256 * p2 + 65536 * p3 + 16777216 * p4 + 4294967296 * p5 + 1099511627776 * p6 + 281474976710656 * p7 := by
  have e : P = (p1 + 256 * p2 + 65536 * p3 + 16777216 * p4 + 4294967296 * p5 + 1099511627776 * p6 + 281474976710656 * p7) * 256 + p0 := by
    rw [hP]; omega
  rw [e]; exact low_div _ 256 p0 (by omega)
theorem st2 (q0 q1 q2 q3 q4 q5 q6 q7 Q : Nat) (h0 : q0 ≤ 16) (h1 : q1 ≤ 16) (hQ : Q = q0 + 256 * q1 + 65536 * q2 + 16777216 * q3 + 4294967296 * q4 + 1099511627776 * q5 + 281474976710656 * q6 + 72057594037927936 * q7) :
    Q / 65536 = q2 + 256 * q3 + 65536 * q4 + 16777216 * q5 + 4294967296 * q6 + 1099511627776 * q7 := by
  have e : Q = (q2 + 256 * q3 + 65536 * q4 + 16777216 * q5 + 4294967296 * q6 + 1099511627776 * q7) * 65536 + (q0 + 256 * q1) := by
    rw [hQ]; omega
  rw [e]; exact low_div _ 65536 _ (by omega)
theorem st3 (r0 r1 r2 r3 r4 r5 r6 r7 R : Nat) (h0 : r0 ≤ 32) (h1 : r1 ≤ 32) (h2 : r2 ≤ 32) (h3 : r3 ≤ 32) (hR : R = r0 + 256 * r1 + 65536 * r2 + 16777216 * r3 + 4294967296 * r4 + 1099511627776 * r5 + 281474976710656 * r6 + 72057594037927936 * r7) :
    R / 4294967296 = r4 + 256 * r5 + 65536 * r6 + 16777216 * r7 := by
  have e : R = (r4 + 256 * r5 + 65536 * r6 + 16777216 * r7) * 4294967296 + (r0 + 256 * r1 + 65536 * r2 + 16777216 * r3) := by
    rw [hR]; omega
  rw [e]; exact low_div _ 4294967296 _ (by omega)
theorem fold8 (p0 p1 p2 p3 p4 p5 p6 p7 : Nat) (h : p0 ≤ 8 ∧ p1 ≤ 8 ∧ p2 ≤ 8 ∧ p3 ≤ 8 ∧ p4 ≤ 8 ∧ p5 ≤ 8 ∧ p6 ≤ 8 ∧ p7 ≤ 8) (P Q R S : Nat)
    (hP : P = ((((((p7 * 256 + p6) * 256 + p5) * 256 + p4) * 256 + p3) * 256 + p2) * 256 + p1) * 256 + p0) (hQ : Q = P + P / 256) (hR : R = Q + Q / 65536) (hS : S = R + R / 4294967296) :
    S % 128 = p0 + p1 + p2 + p3 + p4 + p5 + p6 + p7 ∧ P < 600000000000000000 ∧ Q < 700000000000000000 ∧ R < 800000000000000000 ∧ S < 900000000000000000 := by
  obtain ⟨h0, h1, h2, h3, h4, h5, h6, h7⟩ := h
  rw [fl1] at hP
  have d1 := st1 p0 p1 p2 p3 p4 p5 p6 p7 P h0 hP
  have hP2 : P < 600000000000000000 := by omega
  rw [d1, hP] at hQ
  clear d1 hP
  have hQ2 : Q = (p0 + p1) + 256 * (p1 + p2) + 65536 * (p2 + p3) + 16777216 * (p3 + p4) + 4294967296 * (p4 + p5) + 1099511627776 * (p5 + p6) + 281474976710656 * (p6 + p7) + 72057594037927936 * p7 := by rw [hQ]; omega
  clear hQ
  have d2 := st2 (p0 + p1) (p1 + p2) (p2 + p3) (p3 + p4) (p4 + p5) (p5 + p6) (p6 + p7) p7 Q (by omega) (by omega) hQ2
  have hQ3 : Q < 700000000000000000 := by omega
  rw [d2, hQ2] at hR
  clear d2 hQ2
  have hR2 : R = (p0 + p1 + (p2 + p3)) + 256 * (p1 + p2 + (p3 + p4)) + 65536 * (p2 + p3 + (p4 + p5)) + 16777216 * (p3 + p4 + (p5 + p6)) + 4294967296 * (p4 + p5 + (p6 + p7)) + 1099511627776 * (p5 + p6 + p7) + 281474976710656 * (p6 + p7) + 72057594037927936 * p7 := by rw [hR]; omega
  clear hR
  have d3 := st3 _ _ _ _ _ _ _ _ R (by omega) (by omega) (by omega) (by omega) hR2
  have hR3 : R < 800000000000000000 := by omega
  rw [d3, hR2] at hS
  clear d3 hR2
  have hS2 : S = (p0 + p1 + p2 + p3 + p4 + p5 + p6 + p7) + 128 * (2 * (p1 + p2 + p3 + p4 + p5 + p6 + p7) + 512 * (p2 + p3 + p4 + p5 + p6 + p7) + 131072 * (p3 + p4 + p5 + p6 + p7) + 33554432 * (p4 + p5 + p6 + p7) + 8589934592 * (p5 + p6 + p7) + 2199023255552 * (p6 + p7) + 562949953421312 * p7) := by rw [hS]; omega
  clear hS
  have hS3 : S < 900000000000000000 := by omega
  refine ⟨?_, hP2, hQ3, hR3, hS3⟩
  rw [hS2, Nat.add_mul_mod_self_left]
  exact Nat.mod_eq_of_lt (by omega)
theorem on1_eq {x : Nat} (hx : x < 18446744073709551616) : on1 (ofN x) = ofN (t1 8 x) := by
  have hm : rep 85 8 = 6148914691236517205 := by decide
  have l1 : (x / 2 ^ 1) &&& 6148914691236517205 ≤ 6148914691236517205 := Nat.and_le_right
  have l2 : x &&& 6148914691236517205 ≤ 6148914691236517205 := Nat.and_le_right
  unfold on1
  rw [show (1 : Int) = ofN 1 from rfl, show (6148914691236517205 : Int) = ofN 6148914691236517205 from rfl, shr64 (by decide), and64 (by omega) (by decide), and64 hx (by decide), aop_add]
  show IntKind.u64.wrap ((((x / 2 ^ 1) &&& 6148914691236517205 : Nat) : Int) + ((x &&& 6148914691236517205 : Nat) : Int)) = _
  rw [← Int.natCast_add, wrap_u64 (by omega)]
  unfold t1
  rw [hm]
theorem on2_eq {x : Nat} (hx : x < 18446744073709551616) : on2 (ofN x) = ofN (t2 8 x) := by
  have hm : rep 51 8 = 3689348814741910323 := by decide
  have l1 : (x / 2 ^ 2) &&& 3689348814741910323 ≤ 3689348814741910323 := Nat.and_le_right
  have l2 : x &&& 3689348814741910323 ≤ 3689348814741910323 := Nat.and_le_right
  unfold on2
  rw [show (2 : Int) = ofN 2 from rfl, show (3689348814741910323 : Int) = ofN 3689348814741910323 from rfl, shr64 (by decide), and64 (by omega) (by decide), and64 hx (by decide), aop_add]
  show IntKind.u64.wrap ((((x / 2 ^ 2) &&& 3689348814741910323 : Nat) : Int) + ((x &&& 3689348814741910323 : Nat) : Int)) = _
  rw [← Int.natCast_add, wrap_u64 (by omega)]
  unfold t2
  rw [hm]
theorem t2_le (x : Nat) : t2 8 x ≤ 7378697629483820646 := by
  have hm : rep 51 8 = 3689348814741910323 := by decide
  unfold t2
  rw [hm]
  have l1 : (x / 4) &&& 3689348814741910323 ≤ 3689348814741910323 := Nat.and_le_right
  have l2 : x &&& 3689348814741910323 ≤ 3689348814741910323 := Nat.and_le_right
  omega
theorem on3_eq {x : Nat} (hx : x ≤ 7378697629483820646) : on3 (ofN x) = ofN (t3 8 x) := by
  have hm : rep 15 8 = 1085102592571150095 := by decide
  unfold on3
  rw [show (4 : Int) = ofN 4 from rfl, show (1085102592571150095 : Int) = ofN 1085102592571150095 from rfl, shr64 (by decide), aop_add]
  have e : IntKind.u64.wrap (ofN (x / 2 ^ 4) + ofN x) = ofN (x / 16 + x) := by
    show IntKind.u64.wrap (((x / 2 ^ 4 : Nat) : Int) + (x : Int)) = _
    rw [← Int.natCast_add, wrap_u64 (by omega)]
  rw [e, and64 (by omega) (by decide)]
  unfold t3
  rw [hm]
theorem onS_eq {x k : Nat} (hk : k ≤ 64) (hx : x < 9000000000000000000) : onS (ofN k) (ofN x) = ofN (x + x / 2 ^ k) := by
  have := Nat.div_le_self x (2 ^ k)
  unfold onS
  rw [shr64 hk, aop_add]
  show IntKind.u64.wrap ((x : Int) + ((x / 2 ^ k : Nat) : Int)) = _
  rw [← Int.natCast_add, wrap_u64 (by omega)]
theorem last7 {x : Nat} (hx : x < 9000000000000000000) : aop (.bits .and .i64) (IntKind.i64.wrap (ofN x)) 127 = ofN (x % 128) := by
  have hw : IntKind.i64.wrap (ofN x) = ofN x := wrap64 (by simp only [ofN]; omega)
  rw [hw]
  show IntKind.i64.wrap ((BitVec.ofInt 64 (x : Int) &&& BitVec.ofInt 64 ((127 : Nat) : Int)).toNat : Int) = _
  rw [BitVec.ofInt_natCast, BitVec.ofInt_natCast, BitVec.toNat_and, BitVec.toNat_ofNat, BitVec.toNat_ofNat, Nat.mod_eq_of_lt (by omega), show 127 % 2 ^ 64 = 2 ^ 7 - 1 from by decide, Nat.and_two_pow_sub_one_eq_mod]
  exact wrap64 (by omega)
theorem ones_eq {x : Nat} (hx : x < 18446744073709551616) : ones (ofN x) = ofN (popN x 64) := by
  have hm : rep 85 8 = 6148914691236517205 := by decide
  have ht1 : t1 8 x < 18446744073709551616 := by
    unfold t1
    rw [hm]
    have l1 : (x / 2) &&& 6148914691236517205 ≤ 6148914691236517205 := Nat.and_le_right
    have l2 : x &&& 6148914691236517205 ≤ 6148914691236517205 := Nat.and_le_right
    omega
  have hp := psum_pop 8 x
  have hc := chain 8 x
  have h0 := popN_le (x % 256) 8
  have h1 := popN_le (x / 256 % 256) 8
  have h2 := popN_le (x / 256 / 256 % 256) 8
  have h3 := popN_le (x / 256 / 256 / 256 % 256) 8
  have h4 := popN_le (x / 256 / 256 / 256 / 256 % 256) 8
  have h5 := popN_le (x / 256 / 256 / 256 / 256 / 256 % 256) 8
  have h6 := popN_le (x / 256 / 256 / 256 / 256 / 256 / 256 % 256) 8
  have h7 := popN_le (x / 256 / 256 / 256 / 256 / 256 / 256 / 256 % 256) 8
  have hf := fold8 _ _ _ _ _ _ _ _ ⟨h0, h1, h2, h3, h4, h5, h6, h7⟩ (pack 8 x) _ _ _ (by simp only [pack, Nat.zero_mul, Nat.zero_add]) rfl rfl rfl
  obtain ⟨f1, f2, f3, f4, f5⟩ := hf
  unfold ones
  rw [on1_eq hx, on2_eq ht1, on3_eq (t2_le _), hc, show (8 : Int) = ofN 8 from rfl, show (16 : Int) = ofN 16 from rfl, show (32 : Int) = ofN 32 from rfl]
  rw [onS_eq (by decide) (by omega), onS_eq (by decide) (by omega), onS_eq (by decide) (by omega), last7 (by omega)]
  congr 1
  rw [show 8 * 8 = 64 from rfl] at hp
  rw [← hp]
  simp only [psum, Nat.zero_add]
  refine f1.trans ?_
  omega
end Go.Proofs.Ytlgmbpnlakjefaa
