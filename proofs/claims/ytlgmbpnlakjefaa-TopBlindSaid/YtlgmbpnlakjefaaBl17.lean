/- Contracts: codes of irises, unturned. -/
import Derived.Test.YtlgmbpnlakjefaaBl16
namespace Go.Proofs.Ytlgmbpnlakjefaa
open Go.Sy
set_option maxRecDepth 100000
set_option maxHeartbeats 1000000
set_option linter.unusedSimpArgs false
set_option linter.unusedVariables false
/-! ### OnesCount64 -/
abbrev U : IntKind := .u64
def on1 (x : Int) : Int := IntKind.u64.wrap (aop .add (aop (.bits .and .u64) (aop (.shr .u64) x 1) 6148914691236517205) (aop (.bits .and .u64) x 6148914691236517205))
def on2 (x : Int) : Int := IntKind.u64.wrap (aop .add (aop (.bits .and .u64) (aop (.shr .u64) x 2) 3689348814741910323) (aop (.bits .and .u64) x 3689348814741910323))
def on3 (x : Int) : Int := aop (.bits .and .u64) (IntKind.u64.wrap (aop .add (aop (.shr .u64) x 4) x)) 1085102592571150095
def onS (k : Int) (x : Int) : Int := IntKind.u64.wrap (aop .add x (aop (.shr .u64) x k))
def ones (x : Int) : Int := aop (.bits .and .i64) (IntKind.i64.wrap (onS 32 (onS 16 (onS 8 (on3 (on2 (on1 x))))))) 127
def cOnes : Con := con (fun x : Int => [.int .u64 (.t fun _ => x)]) (fun _ => []) (fun _ => True) (fun x K => K (.int .i64 (.t fun _ => ones x)) [])
theorem s77 : Sound Try.prog 77 cOnes := by
  refine k77.con tabOk envOk_nil mixed o77 fun x K hl h2 => ?_
  cbv
  refine .mk _ _ h2 ?_ ?_
  all_goals cbv
  all_goals repeat' first | apply And.intro | exact trivial | exact SameI.mk (by with_reducible rfl) | exact SameN.mk (by with_reducible rfl) | exact SameL.mk (by with_reducible rfl) | exact SameB.mk (by with_reducible rfl) | exact LeN.mk (by with_reducible exact Nat.le_refl _) | apply SameI.mk | apply SameN.mk | apply SameL.mk | apply SameB.mk | apply LeN.mk
  all_goals first | rfl | exact (ofN_succ _).symm | (simp only [toNat_ofN, NX.v, IX.v, Nat.le_refl]; done) | ((try simp only [toNat_ofN, NX.v, IX.v, nadd, nsub]); omega) | skip
/-! ### Check, compare -/
def cIris : Con := con (fun x : Int × Int => [.agg [.int .u64 (.t fun _ => x.1), .int .u64 (.t fun _ => x.2)]]) (fun _ => []) (fun x => aop (.bits .andNot .u64) x.1 x.2 = 0) (fun x K => K (.int .i64 (.l 0)) [])
theorem s76 : Sound Try.prog 76 cIris := by
  refine k76.con tabOk envOk_nil mixed o76 fun x K hl h2 => ?_
  obtain ⟨c, m⟩ := x
  have hz : aop (.bits .andNot .u64) c m = 0 := hl
  cbv
  refine Br.f (fun b => ?_) (fun b => ?_)
  · exact ne_t.1 b hz
  cbv
  refine .mk _ _ h2 ?_ ?_
  all_goals cbv
  all_goals repeat' first | apply And.intro | exact trivial | exact SameI.mk (by with_reducible rfl) | exact SameN.mk (by with_reducible rfl) | exact SameL.mk (by with_reducible rfl) | exact SameB.mk (by with_reducible rfl) | exact LeN.mk (by with_reducible exact Nat.le_refl _) | apply SameI.mk | apply SameN.mk | apply SameL.mk | apply SameB.mk | apply LeN.mk
  all_goals first | rfl | exact (ofN_succ _).symm | (simp only [toNat_ofN, NX.v, IX.v, Nat.le_refl]; done) | ((try simp only [toNat_ofN, NX.v, IX.v, nadd, nsub]); omega) | skip
theorem e23 : EnvOk Try.prog (env [(77, cOnes)]) := envOk_cons envOk_nil s77 k77.callable
def cCmp : Con := con (fun x : Int × Int × Int × Int => [.agg [.int .u64 (.t fun _ => x.1), .int .u64 (.t fun _ => x.2.1)], .agg [.int .u64 (.t fun _ => x.2.2.1), .int .u64 (.t fun _ => x.2.2.2)]]) (fun _ => []) (fun _ => True)
  (fun x K => K (.tuple [.int .i64 (.t fun _ => ones (aop (.bits .and .u64) (aop (.bits .xor .u64) x.1 x.2.2.1) (aop (.bits .and .u64) x.2.1 x.2.2.2))), .int .i64 (.t fun _ => ones (aop (.bits .and .u64) x.2.1 x.2.2.2))]) [])
theorem s40 : Sound Try.prog 40 cCmp := by
  refine k40.con tabOk e23 mixed o40 fun x K hl h2 => ?_
  obtain ⟨c, m, d, n⟩ := x
  cbv
  refine ⟨aop (.bits .and .u64) (aop (.bits .xor .u64) c d) (aop (.bits .and .u64) m n), trivial, Ent.of_wvs ?_, trivial, ?_⟩
  · cbv
    repeat' first | apply And.intro | exact trivial | exact SameI.mk (by with_reducible rfl) | exact SameN.mk (by with_reducible rfl) | exact SameL.mk (by with_reducible rfl) | exact SameB.mk (by with_reducible rfl) | exact LeN.mk (by with_reducible exact Nat.le_refl _) | apply SameI.mk | apply SameN.mk | apply SameL.mk | apply SameB.mk | apply LeN.mk
    all_goals rfl
  cbv
  refine ⟨aop (.bits .and .u64) m n, trivial, Ent.of_wvs ?_, trivial, ?_⟩
  · cbv
    repeat' first | apply And.intro | exact trivial | exact SameI.mk (by with_reducible rfl) | exact SameN.mk (by with_reducible rfl) | exact SameL.mk (by with_reducible rfl) | exact SameB.mk (by with_reducible rfl) | exact LeN.mk (by with_reducible exact Nat.le_refl _) | apply SameI.mk | apply SameN.mk | apply SameL.mk | apply SameB.mk | apply LeN.mk
    all_goals rfl
  cbv
  refine .mk _ _ h2 ?_ ?_
  all_goals cbv
  all_goals repeat' first | apply And.intro | exact trivial | exact SameI.mk (by with_reducible rfl) | exact SameN.mk (by with_reducible rfl) | exact SameL.mk (by with_reducible rfl) | exact SameB.mk (by with_reducible rfl) | exact LeN.mk (by with_reducible exact Nat.le_refl _) | apply SameI.mk | apply SameN.mk | apply SameL.mk | apply SameB.mk | apply LeN.mk
  all_goals first | rfl | exact (ofN_succ _).symm | (simp only [toNat_ofN, NX.v, IX.v, Nat.le_refl]; done) | ((try simp only [toNat_ofN, NX.v, IX.v, nadd, nsub]); omega) | skip
/-! ### turns by 0 -/
def cRot0 : Con := con (fun x : Int => [.int .u16 (.t fun _ => x), .int .i64 (.l 0)]) (fun _ => []) (fun x => 0 ≤ x ∧ x < 65536) (fun x K => K (.int .u16 (.t fun _ => x)) [])
theorem rot0 {a : Nat} (h : a < 65536) : aop (.bits .or .u16) (aop (.shl .u16) (ofN a) 0) (aop (.shr .u16) (ofN a) 16) = ofN a := by
  rw [show (0 : Int) = ofN 0 from rfl, show (16 : Int) = ofN 16 from rfl, shl16 (by decide) (by simpa using h), shr16 (by decide), or16 (by simpa using h) (by have := Nat.div_le_self a (2 ^ 16); omega)]
  rw [Nat.div_eq_of_lt (by simpa using h)]
  simp
theorem s114 : Sound Try.prog 114 cRot0 := by
  refine k114.con tabOk envOk_nil mixed o114 fun x K hl h2 => ?_
  have h0 : 0 ≤ x := hl.1
  have h1 : x < 65536 := hl.2
  have hr := rot0 (a := x.toNat) (by omega)
  rw [← ofN_of h0] at hr
  cbv
  refine .mk _ _ h2 ?_ ?_
  all_goals cbv
  all_goals repeat' first | apply And.intro | exact trivial | exact SameI.mk (by with_reducible rfl) | exact SameN.mk (by with_reducible rfl) | exact SameL.mk (by with_reducible rfl) | exact SameB.mk (by with_reducible rfl) | exact LeN.mk (by with_reducible exact Nat.le_refl _) | apply SameI.mk | apply SameN.mk | apply SameL.mk | apply SameB.mk | apply LeN.mk
  all_goals first | rfl | exact (ofN_succ _).symm | (simp only [toNat_ofN, NX.v, IX.v, Nat.le_refl]; done) | ((try simp only [toNat_ofN, NX.v, IX.v, nadd, nsub]); omega) | skip
theorem wrap_u64 {n : Nat} (h : n < 18446744073709551616) : IntKind.u64.wrap (n : Int) = ofN n := wrap_inR (by simp [inR, IntKind.min, IntKind.max, IntKind.signed, IntKind.bits]; omega)
theorem or64 {a b : Nat} (ha : a < 18446744073709551616) (hb : b < 18446744073709551616) : aop (.bits .or .u64) (ofN a) (ofN b) = ofN (a ||| b) := by
  show IntKind.u64.wrap ((BitVec.ofInt 64 (a : Int) ||| BitVec.ofInt 64 (b : Int)).toNat : Int) = _
  rw [BitVec.ofInt_natCast, BitVec.ofInt_natCast, BitVec.toNat_or, BitVec.toNat_ofNat, BitVec.toNat_ofNat, Nat.mod_eq_of_lt (by omega), Nat.mod_eq_of_lt (by omega)]
  exact wrap_u64 (Nat.or_lt_two_pow (n := 64) ha hb)
theorem and64 {a b : Nat} (ha : a < 18446744073709551616) (hb : b < 18446744073709551616) : aop (.bits .and .u64) (ofN a) (ofN b) = ofN (a &&& b) := by
  show IntKind.u64.wrap ((BitVec.ofInt 64 (a : Int) &&& BitVec.ofInt 64 (b : Int)).toNat : Int) = _
  rw [BitVec.ofInt_natCast, BitVec.ofInt_natCast, BitVec.toNat_and, BitVec.toNat_ofNat, BitVec.toNat_ofNat, Nat.mod_eq_of_lt (by omega), Nat.mod_eq_of_lt (by omega)]
  exact wrap_u64 (Nat.lt_of_le_of_lt Nat.and_le_left ha)
theorem xor64 {a b : Nat} (ha : a < 18446744073709551616) (hb : b < 18446744073709551616) : aop (.bits .xor .u64) (ofN a) (ofN b) = ofN (a ^^^ b) := by
  show IntKind.u64.wrap ((BitVec.ofInt 64 (a : Int) ^^^ BitVec.ofInt 64 (b : Int)).toNat : Int) = _
  rw [BitVec.ofInt_natCast, BitVec.ofInt_natCast, BitVec.toNat_xor, BitVec.toNat_ofNat, BitVec.toNat_ofNat, Nat.mod_eq_of_lt (by omega), Nat.mod_eq_of_lt (by omega)]
  exact wrap_u64 (Nat.xor_lt_two_pow (n := 64) ha hb)
theorem shr64 {a i : Nat} (hi : i ≤ 64) : aop (.shr .u64) (ofN a) (ofN i) = ofN (a / 2 ^ i) := by
  show (ofN a).fdiv (2 ^ (min (ofN i).toNat 64)) = _
  rw [toNat_ofN, Nat.min_eq_left hi]
  simp only [ofN]
  rw [show (2 : Int) ^ i = ((2 ^ i : Nat) : Int) by simp, Int.natCast_ediv, Int.fdiv_eq_ediv_of_nonneg _ (Int.natCast_nonneg _)]
theorem shl64 {a i : Nat} (hi : i ≤ 64) (h : a * 2 ^ i < 18446744073709551616) : aop (.shl .u64) (ofN a) (ofN i) = ofN (a * 2 ^ i) := by
  show IntKind.u64.wrap (ofN a * 2 ^ (min (ofN i).toNat 64)) = _
  rw [toNat_ofN, Nat.min_eq_left hi]
  simp only [ofN]
  rw [show (2 : Int) ^ i = ((2 ^ i : Nat) : Int) by simp, ← Int.natCast_mul]
  exact wrap_u64 h
theorem cut16 (n : Nat) : IntKind.u16.wrap (ofN n) = ofN (n % 65536) := by
  simp only [IntKind.wrap, IntKind.bits, IntKind.signed, ofN]
  simp
theorem or_add {a b i : Nat} (ha : a < 2 ^ i) : a ||| (b * 2 ^ i) = a + b * 2 ^ i := by
  rw [Nat.mul_comm, Nat.add_comm, Nat.two_pow_add_eq_or_of_lt ha, Nat.or_comm]
def cTurn0 : Con := con (fun w : Nat => [.int .u64 (.t fun _ => ofN w), .int .i64 (.l 0)]) (fun _ => []) (fun w => w < 18446744073709551616) (fun w K => K (.int .u64 (.t fun _ => ofN w)) [])
theorem e24 : EnvOk Try.prog (env [(114, cRot0)]) := envOk_cons envOk_nil s114 k114.callable
theorem s78 : Sound Try.prog 78 cTurn0 := by
  refine k78.con tabOk e24 mixed o78 fun w K hw h2 => ?_
  cbv
  refine loop_inv [0, 1, 5, 6] (fun (i : Nat) => i ≤ 4) (fun i => ⟨[.int .u64 (.t fun _ => ofN w), .int .i64 (.l 0), .undef, .undef, .undef, .int .u64 (.t fun _ => ofN (w % 2 ^ (16 * i))), .int .i64 (.t fun _ => ofN (16 * i)), .undef, .undef, .undef, .undef, .undef, .undef, .undef, .undef, .undef, .undef, .undef, .undef, .undef, .undef, .undef, .undef], []⟩) (fun i => 4 - i) 0 (Nat.zero_le _) ?_ ?_
  · cbv
    repeat' first | apply And.intro | exact trivial | exact SameI.mk (by with_reducible rfl) | exact SameN.mk (by with_reducible rfl) | exact SameL.mk (by with_reducible rfl) | exact SameB.mk (by with_reducible rfl) | exact LeN.mk (by with_reducible exact Nat.le_refl _) | apply SameI.mk | apply SameN.mk | apply SameL.mk | apply SameB.mk | apply LeN.mk
    all_goals first | rfl | exact (ofN_succ _).symm | (simp only [toNat_ofN, NX.v, IX.v, Nat.le_refl]; done) | ((try simp only [toNat_ofN, NX.v, IX.v, nadd, nsub]); omega) | skip
    show (0 : Int) = ofN (w % 2 ^ (16 * 0))
    rw [show 16 * 0 = 0 from rfl, Nat.pow_zero, Nat.mod_one]; rfl
  · intro i R hi hR
    have i0 := ofN_nonneg (16 * i)
    cbv
    refine Br.mk (fun hc => ?_) (fun hc => ?_)
    · have hc : ofN (16 * i) < 64 := lt_t.1 hc
      have hi2 : i < 4 := by simp only [ofN] at hc; omega
      have e1 : IntKind.u16.wrap (aop (.shr .u64) (ofN w) (ofN (16 * i))) = ofN (w / 2 ^ (16 * i) % 65536) := by rw [shr64 (by omega), cut16]
      have hlt : w / 2 ^ (16 * i) % 65536 < 65536 := Nat.mod_lt _ (by decide)
      have e3 : 2 ^ (16 * i) ≤ 2 ^ 48 := Nat.pow_le_pow_right (by decide) (by omega)
      have e4 : w / 2 ^ (16 * i) % 65536 * 2 ^ (16 * i) < 18446744073709551616 := by
        have := Nat.mul_le_mul (show w / 2 ^ (16 * i) % 65536 ≤ 65535 by omega) e3
        omega
      have e5 : w % 2 ^ (16 * i) < 2 ^ (16 * i) := Nat.mod_lt _ (Nat.two_pow_pos _)
      have e6 : aop (.bits .or .u64) (ofN (w % 2 ^ (16 * i))) (aop (.shl .u64) (IntKind.u64.wrap (ofN (w / 2 ^ (16 * i) % 65536))) (ofN (16 * i))) = ofN (w % 2 ^ (16 * (i + 1))) := by
        rw [show IntKind.u64.wrap (ofN (w / 2 ^ (16 * i) % 65536)) = ofN (w / 2 ^ (16 * i) % 65536) from wrap_u64 (by omega), shl64 (by omega) e4, or64 (by omega) e4, or_add e5]
        rw [show 16 * (i + 1) = 16 * i + 16 by omega, Nat.pow_add, Nat.mod_mul, Nat.mul_comm (2 ^ (16 * i))]
      cbv
      refine Chk.mk (i0) ?_
      cbv
      refine ⟨IntKind.u16.wrap (aop (.shr .u64) (ofN w) (ofN (16 * i))), ?_, Ent.of_wvs ?_, trivial, ?_⟩
      · rw [e1]; exact ⟨ofN_nonneg _, by simp only [ofN]; omega⟩
      · cbv
        repeat' first | apply And.intro | exact trivial | exact SameI.mk (by with_reducible rfl) | exact SameN.mk (by with_reducible rfl) | exact SameL.mk (by with_reducible rfl) | exact SameB.mk (by with_reducible rfl) | exact LeN.mk (by with_reducible exact Nat.le_refl _) | apply SameI.mk | apply SameN.mk | apply SameL.mk | apply SameB.mk | apply LeN.mk
        all_goals first | rfl | exact (ofN_succ _).symm | (simp only [toNat_ofN, NX.v, IX.v, Nat.le_refl]; done) | ((try simp only [toNat_ofN, NX.v, IX.v, nadd, nsub]); omega) | skip
      cbv
      refine Chk.mk (i0) ?_
      cbv
      refine Chk.mk (inR64 (by rw [aop_add]; simp only [ofN]; omega)) ?_
      cbv
      refine .mk (hR (i + 1) _ hi2 (by omega) ?_)
      cbv
      repeat' first | apply And.intro | exact trivial | exact SameI.mk (by with_reducible rfl) | exact SameN.mk (by with_reducible rfl) | exact SameL.mk (by with_reducible rfl) | exact SameB.mk (by with_reducible rfl) | exact LeN.mk (by with_reducible exact Nat.le_refl _) | apply SameI.mk | apply SameN.mk | apply SameL.mk | apply SameB.mk | apply LeN.mk
      all_goals first | rfl | exact (ofN_succ _).symm | (simp only [toNat_ofN, NX.v, IX.v, Nat.le_refl]; done) | ((try simp only [toNat_ofN, NX.v, IX.v, nadd, nsub]); omega) | skip
      · show aop (.bits .or .u64) (ofN (w % 2 ^ (16 * i))) (aop (.shl .u64) (IntKind.u64.wrap (IntKind.u16.wrap (aop (.shr .u64) (ofN w) (ofN (16 * i))))) (ofN (16 * i))) = ofN (w % 2 ^ (16 * (i + 1)))
        rw [e1, e6]
    · have hc : ¬ ofN (16 * i) < 64 := lt_f.1 hc
      have hi2 : i = 4 := by simp only [ofN] at hc; omega
      subst hi2
      cbv
      refine .mk ?_
      cbv
      refine .mk _ _ h2 ?_ ?_
      all_goals cbv
      all_goals repeat' first | apply And.intro | exact trivial | exact SameI.mk (by with_reducible rfl) | exact SameN.mk (by with_reducible rfl) | exact SameL.mk (by with_reducible rfl) | exact SameB.mk (by with_reducible rfl) | exact LeN.mk (by with_reducible exact Nat.le_refl _) | apply SameI.mk | apply SameN.mk | apply SameL.mk | apply SameB.mk | apply LeN.mk
      all_goals first | rfl | exact (ofN_succ _).symm | (simp only [toNat_ofN, NX.v, IX.v, Nat.le_refl]; done) | ((try simp only [toNat_ofN, NX.v, IX.v, nadd, nsub]); omega) | skip
      show ofN (w % 2 ^ (16 * 4)) = ofN w
      rw [Nat.mod_eq_of_lt (by simpa using hw)]
theorem e25 : EnvOk Try.prog (env [(78, cTurn0)]) := envOk_cons envOk_nil s78 k78.callable
def cTurnI : Con := con (fun x : Nat × Nat => [.agg [.int .u64 (.t fun _ => ofN x.1), .int .u64 (.t fun _ => ofN x.2)], .int .i64 (.l 0)]) (fun _ => []) (fun x => x.1 < 18446744073709551616 ∧ x.2 < 18446744073709551616)
  (fun x K => K (.agg [.int .u64 (.t fun _ => ofN x.1), .int .u64 (.t fun _ => ofN x.2)]) [])
theorem s41 : Sound Try.prog 41 cTurnI := by
  refine k41.con tabOk e25 mixed o41 fun x K hl h2 => ?_
  obtain ⟨c, m⟩ := x
  cbv
  repeat'
    first
    | refine And.intro ?_ ?_
    | (refine Chk.mk (arrOf_length _ _) ?_; cbv)
    | (refine Chk.mk (rowsOf_length _ _ _) ?_; cbv)
    | fail
  all_goals
    refine ⟨c, hl.1, Ent.of_wvs ?_, trivial, ?_⟩
    · cbv
      repeat' first | apply And.intro | exact trivial | exact SameI.mk (by with_reducible rfl) | exact SameN.mk (by with_reducible rfl) | exact SameL.mk (by with_reducible rfl) | exact SameB.mk (by with_reducible rfl) | exact LeN.mk (by with_reducible exact Nat.le_refl _) | apply SameI.mk | apply SameN.mk | apply SameL.mk | apply SameB.mk | apply LeN.mk
      all_goals first | rfl | exact (ofN_succ _).symm | (simp only [toNat_ofN, NX.v, IX.v, Nat.le_refl]; done) | ((try simp only [toNat_ofN, NX.v, IX.v, nadd, nsub]); omega) | skip
    cbv
    refine ⟨m, hl.2, Ent.of_wvs ?_, trivial, ?_⟩
    · cbv
      repeat' first | apply And.intro | exact trivial | exact SameI.mk (by with_reducible rfl) | exact SameN.mk (by with_reducible rfl) | exact SameL.mk (by with_reducible rfl) | exact SameB.mk (by with_reducible rfl) | exact LeN.mk (by with_reducible exact Nat.le_refl _) | apply SameI.mk | apply SameN.mk | apply SameL.mk | apply SameB.mk | apply LeN.mk
      all_goals first | rfl | exact (ofN_succ _).symm | (simp only [toNat_ofN, NX.v, IX.v, Nat.le_refl]; done) | ((try simp only [toNat_ofN, NX.v, IX.v, nadd, nsub]); omega) | skip
    cbv
    refine .mk _ _ h2 ?_ ?_
    all_goals cbv
    all_goals repeat' first | apply And.intro | exact trivial | exact SameI.mk (by with_reducible rfl) | exact SameN.mk (by with_reducible rfl) | exact SameL.mk (by with_reducible rfl) | exact SameB.mk (by with_reducible rfl) | exact LeN.mk (by with_reducible exact Nat.le_refl _) | apply SameI.mk | apply SameN.mk | apply SameL.mk | apply SameB.mk | apply LeN.mk
    all_goals first | rfl | exact (ofN_succ _).symm | (simp only [toNat_ofN, NX.v, IX.v, Nat.le_refl]; done) | ((try simp only [toNat_ofN, NX.v, IX.v, nadd, nsub]); omega) | skip
/-! ### valid -/
def irises (l : List (Int × Int)) : List (List D) := l.map fun p => [.i p.1, .i p.2]
def cValidI : Con := con (fun l : List (Int × Int) => [.sl 0 (.l 0) (.l 0) 2 (.t fun _ => l.length) (.t fun _ => l.length) false]) (fun l => [some ⟨true, .rows [.int .u64, .int .u64] fun _ => irises l⟩])
  (fun l => l.length ≤ 1000 ∧ ∀ p ∈ l, aop (.bits .andNot .u64) p.1 p.2 = 0) (fun l K => K (.bool (.l true)) [some ⟨true, .rows [.int .u64, .int .u64] fun _ => irises l⟩])
theorem e26 : EnvOk Try.prog (env [(76, cIris)]) := envOk_cons envOk_nil s76 k76.callable
theorem s38 : Sound Try.prog 38 cValidI := by
  refine k38.con tabOk e26 mixed o38 fun l K hl h2 => ?_
  have hl1 := hl.1
  have hl2 := hl.2
  have hlen : (irises l).length = l.length := by simp [irises]
  cbv
  refine loop_inv [5, 6, 7] (fun (i : Nat) => i ≤ l.length) (fun i => ⟨[.undef, .undef, .undef, .undef, .undef, .sl 0 (.l 0) (.l 0) 2 (.t fun _ => l.length) (.t fun _ => l.length) false, .int .i64 (.t fun _ => ofN l.length), .int .i64 (.t fun _ => ofN i), .undef, .undef, .undef, .undef, .undef, .undef, .undef], [some ⟨true, .rows [.int .u64, .int .u64] fun _ => irises l⟩]⟩) (fun i => l.length - i) 0 (Nat.zero_le _) ?_ ?_
  · cbv
    repeat' first | apply And.intro | exact trivial | exact SameI.mk (by with_reducible rfl) | exact SameN.mk (by with_reducible rfl) | exact SameL.mk (by with_reducible rfl) | exact SameB.mk (by with_reducible rfl) | exact LeN.mk (by with_reducible exact Nat.le_refl _) | apply SameI.mk | apply SameN.mk | apply SameL.mk | apply SameB.mk | apply LeN.mk
    all_goals first | rfl | exact (ofN_succ _).symm | (simp only [toNat_ofN, NX.v, IX.v, Nat.le_refl]; done) | ((try simp only [toNat_ofN, NX.v, IX.v, nadd, nsub]); omega) | skip
  · intro i R hi hR
    have i0 := ofN_nonneg i
    cbv
    refine Br.mk (fun hc => ?_) (fun hc => ?_)
    · have hi2 := lt_len hc
      cbv
      refine Chk.mk (idx1 hi2) ?_
      cbv
      refine Chk.mk (by show 0 ≤ ofN (ofN i).toNat ∧ ofN (ofN i).toNat < ((irises l).length : Int); rw [toNat_ofN, hlen]; simp only [ofN]; omega) ?_
      have er : (irises l).getD (ofN i).toNat [] = [.i (l[i]).1, .i (l[i]).2] := by rw [toNat_ofN]; simp [irises, List.getD_eq_getElem?_getD, hi2]
      have e0 : (((irises l).getD (ofN i).toNat []).getD 0 (.i 0)).int = (l[i]).1 := by rw [er]; rfl
      have e1 : (((irises l).getD (ofN i).toNat []).getD 1 (.i 0)).int = (l[i]).2 := by rw [er]; rfl
      have hz := hl2 l[i] (List.getElem_mem _)
      generalize l[i] = q at er e0 e1 hz
      cbv
      refine ⟨q, hz, Ent.of_wvs ?_, trivial, ?_⟩
      · cbv
        repeat' first | apply And.intro | exact trivial | exact SameI.mk (by with_reducible rfl) | exact SameN.mk (by with_reducible rfl) | exact SameL.mk (by with_reducible rfl) | exact SameB.mk (by with_reducible rfl) | exact LeN.mk (by with_reducible exact Nat.le_refl _) | apply SameI.mk | apply SameN.mk | apply SameL.mk | apply SameB.mk | apply LeN.mk
        all_goals first | rfl | exact (ofN_succ _).symm | (simp only [toNat_ofN, NX.v, IX.v, Nat.le_refl]; done) | ((try simp only [toNat_ofN, NX.v, IX.v, nadd, nsub]); omega) | skip
        · exact e0
        · exact e1
      cbv
      refine Chk.mk (inc64 hi2 (by omega)) ?_
      cbv
      refine .mk (hR (i + 1) _ hi2 (by omega) ?_)
      cbv
      repeat' first | apply And.intro | exact trivial | exact SameI.mk (by with_reducible rfl) | exact SameN.mk (by with_reducible rfl) | exact SameL.mk (by with_reducible rfl) | exact SameB.mk (by with_reducible rfl) | exact LeN.mk (by with_reducible exact Nat.le_refl _) | apply SameI.mk | apply SameN.mk | apply SameL.mk | apply SameB.mk | apply LeN.mk
      all_goals first | rfl | exact (ofN_succ _).symm | (simp only [toNat_ofN, NX.v, IX.v, Nat.le_refl]; done) | ((try simp only [toNat_ofN, NX.v, IX.v, nadd, nsub]); omega) | skip
    · obtain rfl := ge_len hc hi
      cbv
      refine .mk ?_
      cbv
      refine .mk _ _ h2 ?_ ?_
      all_goals cbv
      all_goals repeat' first | apply And.intro | exact trivial | exact SameI.mk (by with_reducible rfl) | exact SameN.mk (by with_reducible rfl) | exact SameL.mk (by with_reducible rfl) | exact SameB.mk (by with_reducible rfl) | exact LeN.mk (by with_reducible exact Nat.le_refl _) | apply SameI.mk | apply SameN.mk | apply SameL.mk | apply SameB.mk | apply LeN.mk
      all_goals first | rfl | exact (ofN_succ _).symm | (simp only [toNat_ofN, NX.v, IX.v, Nat.le_refl]; done) | ((try simp only [toNat_ofN, NX.v, IX.v, nadd, nsub]); omega) | skip
/-! ### Compare -/
def whole : Nat := 1152921504606846975
theorem fits_whole {a : Nat} (h : a ≤ whole) : aop (.bits .andNot .u64) (ofN a) 1152921504606846975 = 0 := by
  show IntKind.u64.wrap ((BitVec.ofInt 64 (a : Int) &&& ~~~(BitVec.ofInt 64 ((whole : Nat) : Int))).toNat : Int) = 0
  have e : BitVec.ofInt 64 (a : Int) &&& ~~~(BitVec.ofInt 64 ((whole : Nat) : Int)) = 0#64 := by
    rw [BitVec.ofInt_natCast, BitVec.ofInt_natCast]
    apply BitVec.eq_of_getLsbD_eq
    intro i hi
    simp only [BitVec.getLsbD_and, BitVec.getLsbD_not, BitVec.getLsbD_ofNat, hi, decide_true, Bool.true_and, BitVec.getLsbD_zero]
    by_cases h60 : i < 60
    · have : whole.testBit i = true := by
        rw [show whole = 2 ^ 60 - 1 from rfl, Nat.testBit_two_pow_sub_one]; simpa using h60
      simp [this]
    · have : a.testBit i = false := Nat.testBit_lt_two_pow (Nat.lt_of_le_of_lt h (Nat.lt_of_lt_of_le (show whole < 2 ^ 60 by decide) (Nat.pow_le_pow_right (by decide) (by omega))))
      simp [this]
  rw [e]; rfl
theorem ofN_whole : ofN whole = 1152921504606846975 := rfl
theorem whole_lt : whole < 18446744073709551616 := by decide
attribute [local irreducible] whole ones aop
theorem e27 : EnvOk Try.prog (env [(38, cValidI), (39, cWithin), (41, cTurnI), (40, cCmp)]) := envOk_cons (envOk_cons (envOk_cons (envOk_cons envOk_nil s40 k40.callable) s41 k41.callable) s39 k39.callable) s38 k38.callable
def codeCells (a : Nat) : List AV := [.int .u64 (.t fun _ => ofN a), .int .u64 (.l 1152921504606846975)]
def cCompare : Con := con (fun x : Nat × Nat => [.agg (codeCells x.1), .agg (codeCells x.2), .int .i64 (.l 0)]) (fun _ => []) (fun x => x.1 ≤ whole ∧ x.2 ≤ whole)
  (fun x K => K (.tuple [.int .i64 (.t fun _ => ones (aop (.bits .and .u64) (aop (.bits .xor .u64) (ofN x.1) (ofN x.2)) (ofN whole))), .int .i64 (.t fun _ => ones (ofN whole)), .int .i64 (.l 0)]) [])
theorem s11 : Sound Try.prog 11 cCompare := by
  refine k11.con tabOk e27 mixed o11 fun x K hl h2 => ?_
  obtain ⟨a, b⟩ := x
  have h1 : a ≤ whole := hl.1
  have h3 : b ≤ whole := hl.2
  have w := whole_lt
  cbv
  refine ⟨[(ofN a, 1152921504606846975), (ofN b, 1152921504606846975)], ⟨by simp, ?_⟩, Ent.of_wvs ?_, ?_, ?_⟩
  · intro p hp
    simp only [List.mem_cons, List.not_mem_nil, or_false] at hp
    rcases hp with rfl | rfl
    · exact fits_whole h1
    · exact fits_whole h3
  · cbv
    repeat' first | apply And.intro | exact trivial | exact SameI.mk (by with_reducible rfl) | exact SameN.mk (by with_reducible rfl) | exact SameL.mk (by with_reducible rfl) | exact SameB.mk (by with_reducible rfl) | exact LeN.mk (by with_reducible exact Nat.le_refl _) | apply SameI.mk | apply SameN.mk | apply SameL.mk | apply SameB.mk | apply LeN.mk
    all_goals first | rfl | exact (ofN_succ _).symm | (simp only [toNat_ofN, NX.v, IX.v, Nat.le_refl]; done) | ((try simp only [toNat_ofN, NX.v, IX.v, nadd, nsub]); omega) | skip
    exact Nat.le_refl 2
  · cbv
    repeat' first | apply And.intro | exact trivial | exact SameI.mk (by with_reducible rfl) | exact SameN.mk (by with_reducible rfl) | exact SameL.mk (by with_reducible rfl) | exact SameB.mk (by with_reducible rfl) | exact LeN.mk (by with_reducible exact Nat.le_refl _) | apply SameI.mk | apply SameN.mk | apply SameL.mk | apply SameB.mk | apply LeN.mk
    all_goals rfl
  cbv
  refine ⟨(0, -7, 7), trivial, Ent.of_wvs ?_, trivial, ?_⟩
  · cbv
    repeat' first | apply And.intro | exact trivial | exact SameI.mk (by with_reducible rfl) | exact SameN.mk (by with_reducible rfl) | exact SameL.mk (by with_reducible rfl) | exact SameB.mk (by with_reducible rfl) | exact LeN.mk (by with_reducible exact Nat.le_refl _) | apply SameI.mk | apply SameN.mk | apply SameL.mk | apply SameB.mk | apply LeN.mk
    all_goals first | rfl | exact (ofN_succ _).symm | (simp only [toNat_ofN, NX.v, IX.v, Nat.le_refl]; done) | ((try simp only [toNat_ofN, NX.v, IX.v, nadd, nsub]); omega) | skip
  cbv
  refine Br.f (fun c => ?_) (fun c => ?_)
  · have c : withinB 0 (-7) 7 = false := bnot_t.1 c
    exact absurd c (by decide)
  cbv
  refine ⟨(a, whole), ⟨Nat.lt_of_le_of_lt h1 w, w⟩, Ent.of_wvs ?_, trivial, ?_⟩
  · cbv
    repeat' first | apply And.intro | exact trivial | exact SameI.mk (by with_reducible rfl) | exact SameN.mk (by with_reducible rfl) | exact SameL.mk (by with_reducible rfl) | exact SameB.mk (by with_reducible rfl) | exact LeN.mk (by with_reducible exact Nat.le_refl _) | apply SameI.mk | apply SameN.mk | apply SameL.mk | apply SameB.mk | apply LeN.mk
    all_goals exact ofN_whole.symm
  cbv
  refine ⟨(ofN a, ofN whole, ofN b, ofN whole), trivial, Ent.of_wvs ?_, trivial, ?_⟩
  · cbv
    repeat' first | apply And.intro | exact trivial | exact SameI.mk (by with_reducible rfl) | exact SameN.mk (by with_reducible rfl) | exact SameL.mk (by with_reducible rfl) | exact SameB.mk (by with_reducible rfl) | exact LeN.mk (by with_reducible exact Nat.le_refl _) | apply SameI.mk | apply SameN.mk | apply SameL.mk | apply SameB.mk | apply LeN.mk
    all_goals first | exact ofN_whole.symm | rfl
  have eW : aop (.bits .and .u64) (ofN whole) (ofN whole) = ofN whole := by rw [and64 w w, Nat.and_self]
  have e1 := congrArg (fun z => ones (aop (.bits .and .u64) (aop (.bits .xor .u64) (ofN a) (ofN b)) z)) eW
  have e2 := congrArg ones eW
  cbv
  refine .mk _ _ h2 ?_ trivial
  cbv
  repeat' first | apply And.intro | exact trivial | exact SameI.mk (by with_reducible rfl) | exact SameN.mk (by with_reducible rfl) | exact SameL.mk (by with_reducible rfl) | exact SameB.mk (by with_reducible rfl) | exact LeN.mk (by with_reducible exact Nat.le_refl _) | apply SameI.mk | apply SameN.mk | apply SameL.mk | apply SameB.mk | apply LeN.mk
  · exact e1
  · exact e2
end Go.Proofs.Ytlgmbpnlakjefaa
