/- Plain law: a talk of two parties says whether two words differ in at most so many bits. -/
import Derived.Test.YtlgmbpnlakjefaaBl17
namespace Go.Proofs.Ytlgmbpnlakjefaa
open Go.Sy
set_option maxRecDepth 100000
set_option maxHeartbeats 1000000
set_option linter.unusedSimpArgs false
set_option linter.unusedVariables false
def sumI (f : Nat → Int) : Nat → Int
  | 0 => 0
  | n + 1 => sumI f n + f n
theorem sumI_add (f g : Nat → Int) : ∀ n, sumI (fun i => f i + g i) n = sumI f n + sumI g n
  | 0 => by simp [sumI]
  | n + 1 => by simp only [sumI, sumI_add f g n]; omega
theorem sumI_mod {f g : Nat → Int} : ∀ {n : Nat}, (∀ i, i < n → f i % 31 = g i % 31) → sumI f n % 31 = sumI g n % 31
  | 0, _ => rfl
  | n + 1, h => by
    have h1 := sumI_mod (n := n) fun i hi => h i (by omega)
    have h2 := h n (by omega)
    simp only [sumI]
    omega
theorem countF_mod (w p : Nat → Int) : ∀ n, countF w p n % 31 = sumI (fun i => w i - 2 * p i) n % 31
  | 0 => rfl
  | n + 1 => by
    have h := countF_mod w p n
    simp only [countF, sumI, opOf, m31]
    omega
theorem mul_mod31 (a b : Int) : (a * b) % 31 = ((a % 31) * (b % 31)) % 31 := Int.mul_emod a b 31
/-- the two sums of a talk are together the distance -/
theorem talk_sum {A B U V D E X Y : Int} (hD : D = m31 (X - A)) (hE : E = m31 (Y - B)) (hV : V = m31 (m31 (A * B) - U)) :
    (X - 2 * m31 (m31 (A * E) + U) + (Y - 2 * m31 (m31 (D * m31 (B + E)) + V))) % 31 = (X + Y - 2 * (X * Y)) % 31 := by
  have e1 : m31 (A * E) = (A * (Y - B)) % 31 := by rw [hE]; simp only [m31]; rw [mul_mod31 A, mul_mod31 A (Y - B), Int.emod_emod_of_dvd _ (by decide : (31 : Int) ∣ 31)]
  have e2 : m31 (D * m31 (B + E)) = ((X - A) * Y) % 31 := by
    rw [hD, hE]
    simp only [m31]
    rw [mul_mod31, mul_mod31 (X - A) Y]
    congr 2
    · omega
    · omega
  have e3 : A * (Y - B) = A * Y - A * B := Int.mul_sub A Y B
  have e4 : (X - A) * Y = X * Y - A * Y := Int.sub_mul X A Y
  rw [e1, e2, hV, e3, e4]
  simp only [m31]
  generalize A * Y = p
  generalize A * B = q
  generalize X * Y = r
  omega
def popN (x : Nat) : Nat → Nat
  | 0 => 0
  | n + 1 => popN x n + (x.testBit n).toNat
theorem popN_le (x : Nat) : ∀ n, popN x n ≤ n
  | 0 => Nat.le_refl _
  | n + 1 => by
    have := popN_le x n
    simp only [popN]
    cases x.testBit n <;> simp <;> omega
theorem sum_pop (x y : Nat) : ∀ n, sumI (fun i => ofN (x.testBit i).toNat + ofN (y.testBit i).toNat - 2 * (ofN (x.testBit i).toNat * ofN (y.testBit i).toNat)) n = ofN (popN (x ^^^ y) n)
  | 0 => rfl
  | n + 1 => by
    simp only [sumI, popN, sum_pop x y n, Nat.testBit_xor]
    cases x.testBit n <;> cases y.testBit n <;> simp [ofN]
theorem bitU_eq {w i : Nat} (hw : w < 65536) (hi : i ≤ 16) : bitU (ofN w) i = ofN (w.testBit i).toNat := by
  show IntKind.u8.wrap (bit16 (ofN w) i) = _
  rw [bit16_eq hw hi]
  exact wrap8 (by cases w.testBit i <;> simp [ofN])
theorem xor32 {a b : Nat} (ha : a < 4294967296) (hb : b < 4294967296) : aop (.bits .xor .u32) (ofN a) (ofN b) = ofN (a ^^^ b) := by
  show IntKind.u32.wrap ((BitVec.ofInt 32 (a : Int) ^^^ BitVec.ofInt 32 (b : Int)).toNat : Int) = _
  rw [BitVec.ofInt_natCast, BitVec.ofInt_natCast, BitVec.toNat_xor, BitVec.toNat_ofNat, BitVec.toNat_ofNat, Nat.mod_eq_of_lt (by omega), Nat.mod_eq_of_lt (by omega)]
  exact wrap_inR (by have := Nat.xor_lt_two_pow (n := 32) ha hb; simp [inR, IntKind.min, IntKind.max, IntKind.signed, IntKind.bits]; omega)
theorem and32 {a b : Nat} (ha : a < 4294967296) (hb : b < 4294967296) : aop (.bits .and .u32) (ofN a) (ofN b) = ofN (a &&& b) := by
  show IntKind.u32.wrap ((BitVec.ofInt 32 (a : Int) &&& BitVec.ofInt 32 (b : Int)).toNat : Int) = _
  rw [BitVec.ofInt_natCast, BitVec.ofInt_natCast, BitVec.toNat_and, BitVec.toNat_ofNat, BitVec.toNat_ofNat, Nat.mod_eq_of_lt (by omega), Nat.mod_eq_of_lt (by omega)]
  exact wrap_inR (by have := Nat.lt_of_le_of_lt (Nat.and_le_left (n := a) (m := b)) ha; simp [inR, IntKind.min, IntKind.max, IntKind.signed, IntKind.bits]; omega)
theorem shr32 {a i : Nat} (hi : i ≤ 32) : aop (.shr .u32) (ofN a) (ofN i) = ofN (a / 2 ^ i) := by
  show (ofN a).fdiv (2 ^ (min (ofN i).toNat 32)) = _
  rw [toNat_ofN, Nat.min_eq_left hi]
  simp only [ofN]
  rw [show (2 : Int) ^ i = ((2 ^ i : Nat) : Int) by simp, Int.natCast_ediv, Int.fdiv_eq_ediv_of_nonneg _ (Int.natCast_nonneg _)]
theorem shl32 {i : Nat} (hi : i ≤ 31) : aop (.shl .u32) 1 (ofN i) = ofN (2 ^ i) := by
  show IntKind.u32.wrap (1 * 2 ^ (min (ofN i).toNat 32)) = _
  rw [toNat_ofN, Nat.min_eq_left (by omega), Int.one_mul]
  have h : 2 ^ i ≤ 2147483648 := Nat.pow_le_pow_right (n := 2) (by decide) hi
  rw [show (2 : Int) ^ i = ofN (2 ^ i) by simp [ofN]]
  generalize 2 ^ i = P at h
  exact wrap_inR (by simp only [ofN]; simp [inR, IntKind.min, IntKind.max, IntKind.signed, IntKind.bits]; omega)
def rowN (near : Nat → Bool) (t : Nat) : Nat → Nat
  | 0 => t
  | j + 1 => match near j with | true => rowN near t j ^^^ 2 ^ j | false => rowN near t j
theorem rowN_lt {near : Nat → Bool} {t : Nat} (ht : t < 2147483648) : ∀ {j : Nat}, j ≤ 31 → rowN near t j < 2147483648
  | 0, _ => ht
  | j + 1, h => by
    have ih := rowN_lt (near := near) ht (j := j) (by omega)
    simp only [rowN]
    cases near j
    · exact ih
    · exact Nat.xor_lt_two_pow (n := 31) ih (Nat.pow_lt_pow_right (by decide) (by omega))
theorem rowN_bit (near : Nat → Bool) (t s : Nat) : ∀ j, (rowN near t j).testBit s = (t.testBit s ^^ (decide (s < j) && near s))
  | 0 => by simp [rowN]
  | j + 1 => by
    have ih := rowN_bit near t s j
    simp only [rowN]
    by_cases e : s = j
    · subst e
      cases h : near s <;> simp [h, ih, Nat.testBit_xor, Nat.testBit_two_pow_self]
    · have e2 : (2 ^ j).testBit s = false := by rw [Nat.testBit_two_pow]; simp; omega
      have e3 : decide (s < j + 1) = decide (s < j) := by simp only [decide_eq_decide]; omega
      cases near j <;> simp [ih, Nat.testBit_xor, e2, e3]
theorem rowTo_eq {rc rs lim : Int} {i t : Nat} (ht : t < 2147483648) : ∀ {j : Nat}, j ≤ 31 → rowTo rc rs lim (ofN t) i j = ofN (rowN (nearB rc rs lim i) t j)
  | 0, _ => rfl
  | j + 1, h => by
    have ih := rowTo_eq (rc := rc) (rs := rs) (lim := lim) (i := i) ht (j := j) (by omega)
    have hl := rowN_lt (near := nearB rc rs lim i) ht (j := j) (by omega)
    have hp : 2 ^ j < 4294967296 := Nat.lt_of_lt_of_le (Nat.pow_lt_pow_right (by decide) (show j < 32 by omega)) (Nat.le_refl _)
    simp only [rowTo, rowN]
    cases nearB rc rs lim i j
    · exact ih
    · rw [ih, shl32 (by omega), xor32 (by omega) hp]
theorem bitB_eq {t s : Nat} (ht : t < 4294967296) (hs : s ≤ 31) : bitB (ofN t) (ofN s) = t.testBit s := by
  unfold bitB
  rw [shr32 (by omega), show (1 : Int) = ofN 1 from rfl, and32 (Nat.lt_of_le_of_lt (Nat.div_le_self _ _) ht) (by decide), Nat.and_one_is_mod, Nat.testBit_eq_decide_div_mod_eq]
  have h := Nat.mod_two_eq_zero_or_one (t / 2 ^ s)
  rcases h with h | h <;> rw [h] <;> rfl
theorem xor_of_bits (a n : Bool) : bnot (beqv a (a ^^ n)) = n := by cases a <;> cases n <;> rfl
theorem talk_match {d : DealX} {T : Nat → Nat} (hT : ∀ i, d.t i = ofN (T i)) (hT2 : ∀ i, i < 31 → T i < 2147483648) (hrc : 0 ≤ d.rc ∧ d.rc < 31) (hrs : 0 ≤ d.rs ∧ d.rs < 31) {x y : Nat} (hx : x < 32768) (hy : y < 32768) (lim : Int) :
    tkM d.one (d.snd lim) (ofN x) (ofN y) = decide (ofN (popN (x ^^^ y) 15) ≤ lim) := by
  obtain ⟨A, B, U, rc, rs, t⟩ := d
  dsimp only at hT hrc hrs
  have rC : 0 ≤ tkC (DealX.one ⟨A, B, U, rc, rs, t⟩) (DealX.snd ⟨A, B, U, rc, rs, t⟩ lim) (ofN x) (ofN y) ∧ tkC (DealX.one ⟨A, B, U, rc, rs, t⟩) (DealX.snd ⟨A, B, U, rc, rs, t⟩ lim) (ofN x) (ofN y) < 31 := opOf_range _ _ _
  have rS : 0 ≤ tkS (DealX.one ⟨A, B, U, rc, rs, t⟩) (DealX.snd ⟨A, B, U, rc, rs, t⟩ lim) (ofN x) (ofN y) ∧ tkS (DealX.one ⟨A, B, U, rc, rs, t⟩) (DealX.snd ⟨A, B, U, rc, rs, t⟩ lim) (ofN x) (ofN y) < 31 := opOf_range _ _ _
  obtain ⟨c, hc⟩ : ∃ c : Nat, tkC (DealX.one ⟨A, B, U, rc, rs, t⟩) (DealX.snd ⟨A, B, U, rc, rs, t⟩ lim) (ofN x) (ofN y) = ofN c := ⟨_, ofN_of rC.1⟩
  obtain ⟨s, hs⟩ : ∃ c : Nat, tkS (DealX.one ⟨A, B, U, rc, rs, t⟩) (DealX.snd ⟨A, B, U, rc, rs, t⟩ lim) (ofN x) (ofN y) = ofN c := ⟨_, ofN_of rS.1⟩
  have hc2 : c < 31 := by rw [hc] at rC; simp only [ofN] at rC; omega
  have hs2 : s < 31 := by rw [hs] at rS; simp only [ofN] at rS; omega
  have eL : tkL (DealX.one ⟨A, B, U, rc, rs, t⟩) (DealX.snd ⟨A, B, U, rc, rs, t⟩ lim) (ofN x) (ofN y) = (T c).testBit s := by
    unfold tkL
    rw [hc, hs, toNat_ofN]
    show bitB (t c) (ofN s) = _
    rw [hT, bitB_eq (by have := hT2 c hc2; omega) (by omega)]
  have eR : tkR (DealX.one ⟨A, B, U, rc, rs, t⟩) (DealX.snd ⟨A, B, U, rc, rs, t⟩ lim) (ofN x) (ofN y) = ((T c).testBit s ^^ nearB rc rs lim c s) := by
    unfold tkR
    rw [hc, hs, toNat_ofN]
    show bitB (rowTo rc rs lim (t c) c 31) (ofN s) = _
    rw [hT, rowTo_eq (hT2 c hc2) (Nat.le_refl _), bitB_eq (by have := rowN_lt (near := nearB rc rs lim c) (hT2 c hc2) (Nat.le_refl 31); omega) (by omega), rowN_bit]
    simp [hs2]
  unfold tkM
  rw [eL, eR, xor_of_bits]
  show decide (m31 (m31 (ofN c - rc) + m31 (ofN s - rs)) ≤ lim) = _
  have h1 : ofN c = m31 (countF (bitU (ofN x)) (fun i => opOf 113 (opOf 105 (A i) (opOf 104 (bitU (ofN y) i) (B i))) (U i)) 15 + rc) := hc.symm
  have h2 : ofN s = m31 (countF (bitU (ofN y)) (fun i => opOf 113 (opOf 105 (opOf 104 (bitU (ofN x) i) (A i)) (opOf 113 (B i) (opOf 104 (bitU (ofN y) i) (B i)))) (opOf 104 (opOf 105 (A i) (B i)) (U i))) 15 + rs) := hs.symm
  have h3 := countF_mod (bitU (ofN x)) (fun i => opOf 113 (opOf 105 (A i) (opOf 104 (bitU (ofN y) i) (B i))) (U i)) 15
  have h4 := countF_mod (bitU (ofN y)) (fun i => opOf 113 (opOf 105 (opOf 104 (bitU (ofN x) i) (A i)) (opOf 113 (B i) (opOf 104 (bitU (ofN y) i) (B i)))) (opOf 104 (opOf 105 (A i) (B i)) (U i))) 15
  have h5 := sumI_add (fun i => bitU (ofN x) i - 2 * opOf 113 (opOf 105 (A i) (opOf 104 (bitU (ofN y) i) (B i))) (U i)) (fun i => bitU (ofN y) i - 2 * opOf 113 (opOf 105 (opOf 104 (bitU (ofN x) i) (A i)) (opOf 113 (B i) (opOf 104 (bitU (ofN y) i) (B i)))) (opOf 104 (opOf 105 (A i) (B i)) (U i))) 15
  have h6 := sumI_mod (n := 15) (f := fun i => (bitU (ofN x) i - 2 * opOf 113 (opOf 105 (A i) (opOf 104 (bitU (ofN y) i) (B i))) (U i)) + (bitU (ofN y) i - 2 * opOf 113 (opOf 105 (opOf 104 (bitU (ofN x) i) (A i)) (opOf 113 (B i) (opOf 104 (bitU (ofN y) i) (B i)))) (opOf 104 (opOf 105 (A i) (B i)) (U i))))
    (g := fun i => ofN (x.testBit i).toNat + ofN (y.testBit i).toNat - 2 * (ofN (x.testBit i).toNat * ofN (y.testBit i).toNat)) fun i hi => by
      have := talk_sum (A := A i) (B := B i) (U := U i) (X := bitU (ofN x) i) (Y := bitU (ofN y) i) rfl rfl rfl
      rw [← bitU_eq (w := x) (i := i) (by omega) (by omega), ← bitU_eq (w := y) (i := i) (by omega) (by omega)]
      exact this
  rw [sum_pop] at h6
  have h7 := popN_le (x ^^^ y) 15
  have h8 : m31 (m31 (ofN c - rc) + m31 (ofN s - rs)) = ofN (popN (x ^^^ y) 15) := by
    generalize countF (bitU (ofN x)) (fun i => opOf 113 (opOf 105 (A i) (opOf 104 (bitU (ofN y) i) (B i))) (U i)) 15 = cF at h1 h3
    generalize countF (bitU (ofN y)) (fun i => opOf 113 (opOf 105 (opOf 104 (bitU (ofN x) i) (A i)) (opOf 113 (B i) (opOf 104 (bitU (ofN y) i) (B i)))) (opOf 104 (opOf 105 (A i) (B i)) (U i))) 15 = sF at h2 h4
    rw [h5] at h6
    rw [h1, h2]
    generalize sumI (fun i => bitU (ofN x) i - 2 * opOf 113 (opOf 105 (A i) (opOf 104 (bitU (ofN y) i) (B i))) (U i)) 15 = s1 at h3 h6
    generalize sumI (fun i => bitU (ofN y) i - 2 * opOf 113 (opOf 105 (opOf 104 (bitU (ofN x) i) (A i)) (opOf 113 (B i) (opOf 104 (bitU (ofN y) i) (B i)))) (opOf 104 (opOf 105 (A i) (B i)) (U i))) 15 = s2 at h4 h6
    simp only [m31, ofN] at *
    omega
  rw [h8]
end Go.Proofs.Ytlgmbpnlakjefaa
