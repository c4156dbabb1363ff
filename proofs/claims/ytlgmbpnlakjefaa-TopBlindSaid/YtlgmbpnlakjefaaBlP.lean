/- Plain law: words of 15 bits and their bits; orders and their numbers. -/
import Derived.Test.YtlgmbpnlakjefaaBl13
namespace Go.Proofs.Ytlgmbpnlakjefaa
open Go.Sy
set_option maxRecDepth 100000
set_option maxHeartbeats 1000000
set_option linter.unusedSimpArgs false
set_option linter.unusedVariables false
theorem wrap_u16 {n : Nat} (h : n < 65536) : IntKind.u16.wrap (n : Int) = ofN n := wrap_inR (by simp [inR, IntKind.min, IntKind.max, IntKind.signed, IntKind.bits]; omega)
theorem or16 {a b : Nat} (ha : a < 65536) (hb : b < 65536) : aop (.bits .or .u16) (ofN a) (ofN b) = ofN (a ||| b) := by
  show IntKind.u16.wrap ((BitVec.ofInt 16 (a : Int) ||| BitVec.ofInt 16 (b : Int)).toNat : Int) = _
  rw [BitVec.ofInt_natCast, BitVec.ofInt_natCast, BitVec.toNat_or, BitVec.toNat_ofNat, BitVec.toNat_ofNat, Nat.mod_eq_of_lt (by omega), Nat.mod_eq_of_lt (by omega)]
  exact wrap_u16 (Nat.or_lt_two_pow (n := 16) ha hb)
theorem and16 {a b : Nat} (ha : a < 65536) (hb : b < 65536) : aop (.bits .and .u16) (ofN a) (ofN b) = ofN (a &&& b) := by
  show IntKind.u16.wrap ((BitVec.ofInt 16 (a : Int) &&& BitVec.ofInt 16 (b : Int)).toNat : Int) = _
  rw [BitVec.ofInt_natCast, BitVec.ofInt_natCast, BitVec.toNat_and, BitVec.toNat_ofNat, BitVec.toNat_ofNat, Nat.mod_eq_of_lt (by omega), Nat.mod_eq_of_lt (by omega)]
  exact wrap_u16 (Nat.lt_of_le_of_lt Nat.and_le_left ha)
theorem xor16 {a b : Nat} (ha : a < 65536) (hb : b < 65536) : aop (.bits .xor .u16) (ofN a) (ofN b) = ofN (a ^^^ b) := by
  show IntKind.u16.wrap ((BitVec.ofInt 16 (a : Int) ^^^ BitVec.ofInt 16 (b : Int)).toNat : Int) = _
  rw [BitVec.ofInt_natCast, BitVec.ofInt_natCast, BitVec.toNat_xor, BitVec.toNat_ofNat, BitVec.toNat_ofNat, Nat.mod_eq_of_lt (by omega), Nat.mod_eq_of_lt (by omega)]
  exact wrap_u16 (Nat.xor_lt_two_pow (n := 16) ha hb)
theorem shr16 {a i : Nat} (hi : i ≤ 16) : aop (.shr .u16) (ofN a) (ofN i) = ofN (a / 2 ^ i) := by
  show (ofN a).fdiv (2 ^ (min (ofN i).toNat 16)) = _
  rw [toNat_ofN, Nat.min_eq_left hi]
  simp only [ofN]
  rw [show (2 : Int) ^ i = ((2 ^ i : Nat) : Int) by simp, Int.natCast_ediv, Int.fdiv_eq_ediv_of_nonneg _ (Int.natCast_nonneg _)]
theorem shl16 {a i : Nat} (hi : i ≤ 16) (h : a * 2 ^ i < 65536) : aop (.shl .u16) (ofN a) (ofN i) = ofN (a * 2 ^ i) := by
  show IntKind.u16.wrap (ofN a * 2 ^ (min (ofN i).toNat 16)) = _
  rw [toNat_ofN, Nat.min_eq_left hi]
  simp only [ofN]
  rw [show (2 : Int) ^ i = ((2 ^ i : Nat) : Int) by simp, ← Int.natCast_mul]
  exact wrap_u16 h
/-- the word of some bits -/
def wN (f : Nat → Bool) : Nat → Nat
  | 0 => 0
  | i + 1 => wN f i ||| ((f i).toNat * 2 ^ i)
theorem wN_lt (f : Nat → Bool) : ∀ n, wN f n < 2 ^ n
  | 0 => by simp [wN]
  | n + 1 => by
    refine Nat.or_lt_two_pow (Nat.lt_of_lt_of_le (wN_lt f n) (Nat.pow_le_pow_right (by decide) (by omega))) ?_
    cases f n
    · simp [Nat.two_pow_pos]
    · simp [Nat.pow_succ]; have := Nat.two_pow_pos n; omega
theorem wN_bit (f : Nat → Bool) (n i : Nat) : (wN f n).testBit i = (decide (i < n) && f i) := by
  induction n with
  | zero => simp [wN]
  | succ n ih =>
    simp only [wN, Nat.testBit_or, ih]
    have h : ((f n).toNat * 2 ^ n).testBit i = (decide (i = n) && f n) := by
      cases hf : f n
      · simp
      · simp only [Bool.toNat_true, Nat.one_mul, Bool.and_true]
        rw [Nat.testBit_two_pow]; simp [eq_comm]
    rw [h]
    by_cases e : i = n
    · subst e; simp
    · by_cases e2 : i < n
      · simp [e, e2, show i < n + 1 from by omega]
      · simp [e, e2, show ¬ i < n + 1 from by omega]
/-- a bit as a number -/
theorem bit16_eq {w i : Nat} (hw : w < 65536) (hi : i ≤ 16) : bit16 (ofN w) i = ofN (w.testBit i).toNat := by
  unfold bit16
  have h1 : w / 2 ^ i < 65536 := Nat.lt_of_le_of_lt (Nat.div_le_self _ _) hw
  rw [shr16 hi, show (1 : Int) = ofN 1 from rfl, and16 h1 (by decide)]
  rw [Nat.and_one_is_mod, Nat.testBit_eq_decide_div_mod_eq]
  have := Nat.mod_two_eq_zero_or_one (w / 2 ^ i)
  rcases this with h | h <;> rw [h] <;> rfl
/-- a word of numbers that are bits -/
theorem wordTo_eq {l : List Int} {f : Nat → Bool} : ∀ {n : Nat}, n ≤ 16 → (∀ i, i < n → l.getD i 0 = ofN (f i).toNat) → wordTo l n = ofN (wN f n)
  | 0, _, _ => rfl
  | n + 1, hn, h => by
    have ih := wordTo_eq (n := n) (by omega) fun i hi => h i (by omega)
    have hb : (f n).toNat * 2 ^ n < 65536 := by
      have h1 : 2 ^ n ≤ 2 ^ 15 := Nat.pow_le_pow_right (by decide) (by omega)
      cases f n <;> simp <;> omega
    simp only [wordTo, wN]
    rw [ih, h n (by omega), shl16 (by omega) hb]
    exact or16 (Nat.lt_of_lt_of_le (wN_lt f n) (Nat.pow_le_pow_right (by decide) (show n ≤ 16 by omega))) hb
theorem fillTo_get {n : Nat} {f : Nat → Int} {i : Nat} (hi : i < n) : (fillTo n f n).getD i 0 = f i := by simp [fillTo, List.getD_eq_getElem?_getD, hi]
theorem pickL_get {l o : List Int} {i : Nat} (hi : i < o.length) : (pickL l o).getD i 0 = l.getD (o.getD i 0).toNat 0 := fillTo_get hi
theorem bitsL_get {n : Nat} {w : Int} {i : Nat} (hi : i < n) : (bitsL n w).getD i 0 = bit16 w i := by simp [bitsL, bitsTo, List.getD_eq_getElem?_getD, hi]
/-- the bits of a word, picked and put together -/
theorem picked {n w : Nat} {o : List Int} {s : Nat → Nat} (hn : n ≤ 16) (hw : w < 65536) (hl : o.length = n) (ho : ∀ i, i < n → o.getD i 0 = ofN (s i)) (hs : ∀ i, i < n → s i < n) :
    wordTo (pickL (bitsL n (ofN w)) o) n = ofN (wN (fun i => w.testBit (s i)) n) := by
  refine wordTo_eq hn fun i hi => ?_
  rw [pickL_get (by omega), ho i hi, toNat_ofN, bitsL_get (hs i hi), bit16_eq hw (by have := hs i hi; omega)]
/-- the places of a list of numbers -/
def at0 (l : List Int) (i : Nat) : Nat := (l.getD i 0).toNat
theorem at0_of {l : List Int} {i : Nat} (h : 0 ≤ l.getD i 0) : l.getD i 0 = ofN (at0 l i) := by simp only [at0, ofN]; omega
theorem ofN_of {a : Int} (h : 0 ≤ a) : a = ofN a.toNat := by simp only [ofN]; omega
theorem inv_ok {k : KeyX} (hk : k.ok) : (invI k).ok := by
  have h1 := hk.2.1
  have h5 := hk.2.2.2.2.1
  have h6 := hk.2.2.2.2.2
  have hp := pow_le15 h1
  have hl := invL_length k
  refine ⟨hk.1, h1, ofN_nonneg _, ?_, ?_⟩
  · show (ofN (numTo (invL k) k.n)).toNat < fact k.n
    rw [toNat_ofN]
    have h := numTo_lt (invL k) k.n (by omega)
    rw [hl, Nat.sub_self] at h
    simp only [fact, Nat.mul_one] at h
    exact h
  · show 0 ≤ wordTo (pickL (bitsL k.n k.pad) (invL k)) k.n ∧ wordTo (pickL (bitsL k.n k.pad) (invL k)) k.n < ofN (2 ^ k.n)
    rw [ofN_of h5, picked (s := at0 (invL k)) (by omega) (by simp only [ofN] at h6; omega) hl (fun i hi => at0_of (invL_range hk.1 hi).1) (fun i hi => by
      have := invL_range hk.1 hi
      simp only [at0, ofN] at *; omega)]
    exact ⟨ofN_nonneg _, ofN_lt.2 (wN_lt _ _)⟩
end Go.Proofs.Ytlgmbpnlakjefaa
