/- Put together by a program of this work out of its texts KpE, KpF. -/
import Derived.Test.YtlgmbpnlakjefaaDoorM17
section
/- Contracts: the reference's small functions; hiding a list of words. -/
namespace Go.Proofs.YtlgmbpnlakjefaaDoor
open Go.Sy
set_option maxRecDepth 100000
set_option maxHeartbeats 1000000
set_option linter.unusedSimpArgs false
set_option linter.unusedVariables false
def listF (n : Nat) (f : Nat → Nat) : List Nat := (List.range n).map f
theorem listF_length (n : Nat) (f : Nat → Nat) : (listF n f).length = n := by simp [listF]
theorem listF_get {n : Nat} {f : Nat → Nat} {i : Nat} (h : i < n) : (listF n f).getD i 0 = f i := by simp [listF, List.getD_eq_getElem?_getD, h]
theorem nums_append (l m : List Nat) : nums l ++ nums m = nums (l ++ m) := by simp [nums, ints_append]
theorem grow_nums (f : Nat → Nat) (i : Nat) : ((nums (listF i f)).drop 0).take i ++ [[D.i (ofN (f i))]] = nums (listF (i + 1) f) := by
  rw [List.drop_zero, List.take_of_length_le (by rw [nums_length, listF_length]; exact Nat.le_refl _), show [[D.i (ofN (f i))]] = nums [f i] from rfl, nums_append]
  simp [listF, List.range_succ]
theorem listF_id (l : List Nat) : listF l.length (fun i => l.getD i 0) = l := by
  apply List.ext_getElem?
  intro i
  by_cases h : i < l.length
  · simp [listF, h, List.getD_eq_getElem?_getD]
  · simp [listF, h]
theorem iff_no {p : Prop} (h : ¬ p) : (false = true ↔ p) := ⟨fun e => (by cases e), fun e => absurd e h⟩
theorem iff_yes {p : Prop} (h : p) : (true = true ↔ p) := ⟨fun _ => h, fun _ => rfl⟩
def cKindQ : Con := con (fun n : Nat => [.int .u8 (.t fun _ => ofN n)]) (fun _ => []) (fun n => n < 256) (fun n K => ∀ b : Bool, (b = true ↔ Kind3 n) → K (.bool (.t fun _ => b)) [])
theorem s6 : Sound Tryd.prog 6 cKindQ := by
  refine k6.con tabOk envOk_nil mixed o6 fun n K hn h2 => ?_
  cbv
  refine Br.mk (fun hc => ?_) (fun hc => ?_)
  · have h1 : 1 ≤ n := by have : 1 ≤ ofN n := ge_t.1 hc; simp only [ofN] at this; omega
    have h2 := h2 (cop .le (ofN n) 3) ⟨fun h => by have : ofN n ≤ 3 := le_t.1 h; simp only [ofN] at this; unfold Kind3; omega, fun h => le_t.2 (by unfold Kind3 at h; simp only [ofN]; omega)⟩
    cbv
    refine .mk _ _ h2 ?_ ?_
    all_goals cbv
    all_goals repeat' first | apply And.intro | exact trivial | exact SameI.mk (by with_reducible rfl) | exact SameN.mk (by with_reducible rfl) | exact SameL.mk (by with_reducible rfl) | exact SameB.mk (by with_reducible rfl) | exact LeN.mk (by with_reducible exact Nat.le_refl _) | apply SameI.mk | apply SameN.mk | apply SameL.mk | apply SameB.mk | apply LeN.mk
    all_goals first | rfl | exact (ofN_succ _).symm | (simp only [toNat_ofN, NX.v, IX.v, Nat.le_refl]; done) | ((try simp only [toNat_ofN, NX.v, IX.v, nadd, nsub]); omega) | skip
  · have h1 : n = 0 := by have : ¬ 1 ≤ ofN n := ge_f.1 hc; simp only [ofN] at this; omega
    have h2 := h2 false (iff_no (fun h => (by unfold Kind3 at h; omega)))
    cbv
    refine .mk _ _ h2 ?_ ?_
    all_goals cbv
    all_goals repeat' first | apply And.intro | exact trivial | exact SameI.mk (by with_reducible rfl) | exact SameN.mk (by with_reducible rfl) | exact SameL.mk (by with_reducible rfl) | exact SameB.mk (by with_reducible rfl) | exact LeN.mk (by with_reducible exact Nat.le_refl _) | apply SameI.mk | apply SameN.mk | apply SameL.mk | apply SameB.mk | apply LeN.mk
    all_goals first | rfl | exact (ofN_succ _).symm | (simp only [toNat_ofN, NX.v, IX.v, Nat.le_refl]; done) | ((try simp only [toNat_ofN, NX.v, IX.v, nadd, nsub]); omega) | skip
def cT : Con := con (fun n : Nat => [.int .u8 (.t fun _ => ofN n)]) (fun _ => []) Kind3 (fun n K => K (.int .i64 (.t fun _ => ofN (tN n))) [])
theorem s11 : Sound Tryd.prog 11 cT := by
  refine k11.con tabOk envOk_nil mixed o11 fun n K hn h2 => ?_
  have h4 : n < 4 := by rcases hn with rfl | rfl | rfl <;> decide
  cbv
  refine Chk.mk (ofN_in h4) ?_
  cbv
  refine Chk.mk ((by rw [toNat_ofN]; exact ofN_in h4)) ?_
  cbv
  refine .mk _ _ h2 ?_ ?_
  all_goals cbv
  all_goals repeat' first | apply And.intro | exact trivial | exact SameI.mk (by with_reducible rfl) | exact SameN.mk (by with_reducible rfl) | exact SameL.mk (by with_reducible rfl) | exact SameB.mk (by with_reducible rfl) | exact LeN.mk (by with_reducible exact Nat.le_refl _) | apply SameI.mk | apply SameN.mk | apply SameL.mk | apply SameB.mk | apply LeN.mk
  all_goals first | rfl | exact (ofN_succ _).symm | (simp only [toNat_ofN, NX.v, IX.v, Nat.le_refl]; done) | ((try simp only [toNat_ofN, NX.v, IX.v, nadd, nsub]); omega) | skip
  all_goals (rw [toNat_ofN]; rcases hn with rfl | rfl | rfl <;> rfl)
def cK : Con := con (fun n : Nat => [.int .u8 (.t fun _ => ofN n)]) (fun _ => []) Kind3 (fun n K => K (.int .i64 (.t fun _ => ofN (kdN n))) [])
theorem s24 : Sound Tryd.prog 24 cK := by
  refine k24.con tabOk envOk_nil mixed o24 fun n K hn h2 => ?_
  have h4 : n < 4 := by rcases hn with rfl | rfl | rfl <;> decide
  cbv
  refine Chk.mk (ofN_in h4) ?_
  cbv
  refine Chk.mk ((by rw [toNat_ofN]; exact ofN_in h4)) ?_
  cbv
  refine .mk _ _ h2 ?_ ?_
  all_goals cbv
  all_goals repeat' first | apply And.intro | exact trivial | exact SameI.mk (by with_reducible rfl) | exact SameN.mk (by with_reducible rfl) | exact SameL.mk (by with_reducible rfl) | exact SameB.mk (by with_reducible rfl) | exact LeN.mk (by with_reducible exact Nat.le_refl _) | apply SameI.mk | apply SameN.mk | apply SameL.mk | apply SameB.mk | apply LeN.mk
  all_goals first | rfl | exact (ofN_succ _).symm | (simp only [toNat_ofN, NX.v, IX.v, Nat.le_refl]; done) | ((try simp only [toNat_ofN, NX.v, IX.v, nadd, nsub]); omega) | skip
  all_goals (rw [toNat_ofN]; rcases hn with rfl | rfl | rfl <;> rfl)
def cIsMsg : Con := con (fun x : Nat × Nat => [.int .u8 (.t fun _ => ofN x.1), .int .u16 (.t fun _ => ofN x.2)]) (fun _ => []) (fun x => Kind3 x.1 ∧ x.2 < 65536) (fun x K => ∀ b : Bool, (b = true ↔ x.2 < 2 ^ kdN x.1) → K (.bool (.t fun _ => b)) [])
theorem f12 : EnvOk Tryd.prog (env [(24, cK)]) := envOk_cons envOk_nil s24 k24.callable
theorem s9 : Sound Tryd.prog 9 cIsMsg := by
  refine k9.con tabOk f12 mixed o9 fun x K hx h2 => ?_
  have hk : Kind3 x.1 := hx.1
  have hm : x.2 < 65536 := hx.2
  have hkd := (two_kd hk).2.2.1
  have e1 := shl1 (n := kdN x.1) (by omega)
  have e2 : IntKind.i64.wrap (ofN x.2) = ofN x.2 := wrap_i64 (by simp only [ofN]; omega)
  cbv
  refine ⟨x.1, hk, Ent.of_wvs ?_, trivial, ?_⟩
  · cbv
    repeat' first | apply And.intro | exact trivial | exact SameI.mk (by with_reducible rfl) | exact SameN.mk (by with_reducible rfl) | exact SameL.mk (by with_reducible rfl) | exact SameB.mk (by with_reducible rfl) | exact LeN.mk (by with_reducible exact Nat.le_refl _) | apply SameI.mk | apply SameN.mk | apply SameL.mk | apply SameB.mk | apply LeN.mk
    all_goals first | rfl | exact (ofN_succ _).symm | (simp only [toNat_ofN, NX.v, IX.v, Nat.le_refl]; done) | ((try simp only [toNat_ofN, NX.v, IX.v, nadd, nsub]); omega) | skip
  cbv
  refine Chk.mk ((ofN_nonneg _)) ?_
  cbv
  refine .mk _ _ (h2 (cop .lt (ofN x.2) (ofN (2 ^ kdN x.1))) ⟨fun h => ofN_lt.1 (lt_t.1 h), fun h => lt_t.2 (ofN_lt.2 h)⟩) ?_ ?_
  all_goals cbv
  all_goals repeat' first | apply And.intro | exact trivial | exact SameI.mk (by with_reducible rfl) | exact SameN.mk (by with_reducible rfl) | exact SameL.mk (by with_reducible rfl) | exact SameB.mk (by with_reducible rfl) | exact LeN.mk (by with_reducible exact Nat.le_refl _) | apply SameI.mk | apply SameN.mk | apply SameL.mk | apply SameB.mk | apply LeN.mk
  show cop .lt (IntKind.i64.wrap (ofN x.2)) (aop (.shl .i64) 1 (ofN (kdN x.1))) = cop .lt (ofN x.2) (ofN (2 ^ kdN x.1))
  rw [e1, e2]
def cFar : Con := con (fun x : Nat × Nat => [.int .u16 (.t fun _ => ofN x.1), .int .u16 (.t fun _ => ofN x.2)]) (fun _ => []) (fun x => x.1 < 65536 ∧ x.2 < 65536) (fun x K => K (.int .i64 (.t fun _ => ofN (popN (x.1 ^^^ x.2) 16))) [])
theorem s10 : Sound Tryd.prog 10 cFar := by
  refine k10.con tabOk envOk_nil mixed o10 fun x K hx h2 => ?_
  obtain ⟨a, b⟩ := x
  have ha : a < 65536 := hx.1
  have hb : b < 65536 := hx.2
  have hx16 : a ^^^ b < 65536 := Nat.xor_lt_two_pow (n := 16) ha hb
  cbv
  refine loop_inv [0, 1, 5, 6] (fun (i : Nat) => i ≤ 16) (fun i => ⟨[.int .u16 (.t fun _ => ofN a), .int .u16 (.t fun _ => ofN b), .undef, .undef, .undef, .int .i64 (.t fun _ => ofN (popN (a ^^^ b) i)), .int .i64 (.t fun _ => ofN i), .undef, .undef, .undef, .undef, .undef, .undef, .undef, .undef, .undef, .undef, .undef, .undef, .undef, .undef], []⟩) (fun i => 16 - i) 0 (Nat.zero_le _) ?_ ?_
  · cbv
    repeat' first | apply And.intro | exact trivial | exact SameI.mk (by with_reducible rfl) | exact SameN.mk (by with_reducible rfl) | exact SameL.mk (by with_reducible rfl) | exact SameB.mk (by with_reducible rfl) | exact LeN.mk (by with_reducible exact Nat.le_refl _) | apply SameI.mk | apply SameN.mk | apply SameL.mk | apply SameB.mk | apply LeN.mk
    all_goals first | rfl | exact (ofN_succ _).symm | (simp only [toNat_ofN, NX.v, IX.v, Nat.le_refl]; done) | ((try simp only [toNat_ofN, NX.v, IX.v, nadd, nsub]); omega) | skip
  · intro i R hi hR
    have i0 := ofN_nonneg i
    cbv
    refine Br.mk (fun hc => ?_) (fun hc => ?_)
    · have hi2 : i < 16 := by have : ofN i < 16 := lt_t.1 hc; simp only [ofN] at this; omega
      have hp := popN_le (a ^^^ b) i
      have hbt : (((a ^^^ b).testBit i).toNat) ≤ 1 := by cases (a ^^^ b).testBit i <;> decide
      have e1 : aop .add (ofN (popN (a ^^^ b) i)) (IntKind.i64.wrap (aop (.bits .and .u16) (aop (.shr .u16) (aop (.bits .xor .u16) (ofN a) (ofN b)) (ofN i)) 1)) = ofN (popN (a ^^^ b) (i + 1)) := by
        rw [xor16 ha hb]
        have e := bit16_eq (i := i) hx16 (by omega)
        unfold bit16 at e
        rw [e, wrap_i64 (by simp only [ofN]; omega), aop_add]
        simp only [popN, ofN]; omega
      have hp2 := popN_le (a ^^^ b) (i + 1)
      cbv
      refine Chk.mk ((ofN_nonneg i)) ?_
      cbv
      refine Chk.mk (inR64 (by rw [e1]; simp only [ofN]; omega)) ?_
      cbv
      refine Chk.mk (inR64 (by rw [aop_add]; simp only [ofN]; omega)) ?_
      cbv
      refine .mk (hR (i + 1) _ hi2 (by omega) ?_)
      cbv
      repeat' first | apply And.intro | exact trivial | exact SameI.mk (by with_reducible rfl) | exact SameN.mk (by with_reducible rfl) | exact SameL.mk (by with_reducible rfl) | exact SameB.mk (by with_reducible rfl) | exact LeN.mk (by with_reducible exact Nat.le_refl _) | apply SameI.mk | apply SameN.mk | apply SameL.mk | apply SameB.mk | apply LeN.mk
      all_goals first | rfl | exact (ofN_succ _).symm | (simp only [toNat_ofN, NX.v, IX.v, Nat.le_refl]; done) | ((try simp only [toNat_ofN, NX.v, IX.v, nadd, nsub]); omega) | skip
      all_goals exact e1
    · obtain rfl : i = 16 := by have : ¬ ofN i < 16 := lt_f.1 hc; simp only [ofN] at this; omega
      cbv
      refine .mk ?_
      cbv
      refine .mk _ _ h2 ?_ ?_
      all_goals cbv
      all_goals repeat' first | apply And.intro | exact trivial | exact SameI.mk (by with_reducible rfl) | exact SameN.mk (by with_reducible rfl) | exact SameL.mk (by with_reducible rfl) | exact SameB.mk (by with_reducible rfl) | exact LeN.mk (by with_reducible exact Nat.le_refl _) | apply SameI.mk | apply SameN.mk | apply SameL.mk | apply SameB.mk | apply LeN.mk
      all_goals first | rfl | exact (ofN_succ _).symm | (simp only [toNat_ofN, NX.v, IX.v, Nat.le_refl]; done) | ((try simp only [toNat_ofN, NX.v, IX.v, nadd, nsub]); omega) | skip
def cTmpl : Con := con (fun x : WordsX => [.sl 0 (.l 0) (.l 0) 1 (.t fun _ => x.l.length) (.t fun _ => x.l.length) false]) WordsX.heap (fun x => True) (fun x K => ∀ b : Bool, (b = true ↔ 1 ≤ x.l.length ∧ x.l.length ≤ 4 ∧ Below x.l 32768) → K (.bool (.t fun _ => b)) x.heap)
theorem s7 : Sound Tryd.prog 7 cTmpl := by
  refine k7.con tabOk envOk_nil mixed o7 fun x K hx h2 => ?_
  obtain ⟨l, mt⟩ := x
  cases mt
  · cbv
    refine Br.mk (fun hc => ?_) (fun hc => ?_)
    · have h1 : ¬ 1 ≤ l.length := by have : ofN l.length < 1 := lt_t.1 hc; simp only [ofN] at this; omega
      have h2 := h2 false (iff_no fun h => absurd h.1 h1)
      cbv
      refine .mk _ _ h2 ?_ ?_
      all_goals cbv
      all_goals repeat' first | apply And.intro | exact trivial | exact SameI.mk (by with_reducible rfl) | exact SameN.mk (by with_reducible rfl) | exact SameL.mk (by with_reducible rfl) | exact SameB.mk (by with_reducible rfl) | exact LeN.mk (by with_reducible exact Nat.le_refl _) | apply SameI.mk | apply SameN.mk | apply SameL.mk | apply SameB.mk | apply LeN.mk
      all_goals first | rfl | exact (ofN_succ _).symm | (simp only [toNat_ofN, NX.v, IX.v, Nat.le_refl]; done) | ((try simp only [toNat_ofN, NX.v, IX.v, nadd, nsub]); omega) | skip
    · have h1 : 1 ≤ l.length := by have : ¬ ofN l.length < 1 := lt_f.1 hc; simp only [ofN] at this; omega
      cbv
      refine Br.mk (fun hc => ?_) (fun hc => ?_)
      · have h4 : ¬ l.length ≤ 4 := by have : 4 < ofN l.length := gt_t.1 hc; simp only [ofN] at this; omega
        have h2 := h2 false (iff_no fun h => absurd h.2.1 h4)
        cbv
        refine .mk _ _ h2 ?_ ?_
        all_goals cbv
        all_goals repeat' first | apply And.intro | exact trivial | exact SameI.mk (by with_reducible rfl) | exact SameN.mk (by with_reducible rfl) | exact SameL.mk (by with_reducible rfl) | exact SameB.mk (by with_reducible rfl) | exact LeN.mk (by with_reducible exact Nat.le_refl _) | apply SameI.mk | apply SameN.mk | apply SameL.mk | apply SameB.mk | apply LeN.mk
        all_goals first | rfl | exact (ofN_succ _).symm | (simp only [toNat_ofN, NX.v, IX.v, Nat.le_refl]; done) | ((try simp only [toNat_ofN, NX.v, IX.v, nadd, nsub]); omega) | skip
      · have h4 : l.length ≤ 4 := by have : ¬ 4 < ofN l.length := gt_f.1 hc; simp only [ofN] at this; omega
        cbv
        refine loop_inv [0, 3] (fun (i : Nat) => i ≤ l.length ∧ ∀ j, j < i → l.getD j 0 < 32768) (fun i => ⟨[.sl 0 (.l 0) (.l 0) 1 (.t fun _ => l.length) (.t fun _ => l.length) false, .undef, .undef, .int .i64 (.t fun _ => ofN i), .undef, .undef, .undef, .undef, .undef, .undef, .undef, .undef, .undef, .undef, .undef, .undef, .undef, .undef, .undef, .undef, .undef, .undef, .undef], WordsX.heap ⟨l, false⟩⟩) (fun i => l.length - i) 0 ⟨Nat.zero_le _, fun j h => absurd h (Nat.not_lt_zero j)⟩ ?_ ?_
        · cbv
          repeat' first | apply And.intro | exact trivial | exact SameI.mk (by with_reducible rfl) | exact SameN.mk (by with_reducible rfl) | exact SameL.mk (by with_reducible rfl) | exact SameB.mk (by with_reducible rfl) | exact LeN.mk (by with_reducible exact Nat.le_refl _) | apply SameI.mk | apply SameN.mk | apply SameL.mk | apply SameB.mk | apply LeN.mk
          all_goals first | rfl | exact (ofN_succ _).symm | (simp only [toNat_ofN, NX.v, IX.v, Nat.le_refl]; done) | ((try simp only [toNat_ofN, NX.v, IX.v, nadd, nsub]); omega) | skip
        · intro i R ⟨hi, hj⟩ hR
          have i0 := ofN_nonneg i
          cbv
          refine Br.mk (fun hc => ?_) (fun hc => ?_)
          · have hi2 := lt_len hc
            have e0 := at1_nums l i
            cbv
            refine Chk.mk (idx1 hi2) ?_
            cbv
            refine Chk.mk (idxN hi2) ?_
            cbv
            refine Br.mk (fun hc => ?_) (fun hc => ?_)
            · have h5 : ¬ l.getD i 0 < 32768 := by have : 32768 ≤ at1 (nums l) (ofN i).toNat := ge_t.1 hc; rw [e0] at this; simp only [ofN] at this; omega
              have h2 := h2 false (iff_no fun h => absurd (h.2.2 i hi2) h5)
              cbv
              refine .mk ?_
              cbv
              refine .mk _ _ h2 ?_ ?_
              all_goals cbv
              all_goals repeat' first | apply And.intro | exact trivial | exact SameI.mk (by with_reducible rfl) | exact SameN.mk (by with_reducible rfl) | exact SameL.mk (by with_reducible rfl) | exact SameB.mk (by with_reducible rfl) | exact LeN.mk (by with_reducible exact Nat.le_refl _) | apply SameI.mk | apply SameN.mk | apply SameL.mk | apply SameB.mk | apply LeN.mk
              all_goals first | rfl | exact (ofN_succ _).symm | (simp only [toNat_ofN, NX.v, IX.v, Nat.le_refl]; done) | ((try simp only [toNat_ofN, NX.v, IX.v, nadd, nsub]); omega) | skip
            · have h5 : l.getD i 0 < 32768 := by have : ¬ 32768 ≤ at1 (nums l) (ofN i).toNat := ge_f.1 hc; rw [e0] at this; simp only [ofN] at this; omega
              cbv
              refine Chk.mk (inc64 hi2 (by omega)) ?_
              cbv
              refine .mk (hR (i + 1) _ ⟨hi2, fun j h => by rcases Nat.lt_or_ge j i with h6 | h6; exact hj j h6; rw [show j = i by omega]; exact h5⟩ (by omega) ?_)
              cbv
              repeat' first | apply And.intro | exact trivial | exact SameI.mk (by with_reducible rfl) | exact SameN.mk (by with_reducible rfl) | exact SameL.mk (by with_reducible rfl) | exact SameB.mk (by with_reducible rfl) | exact LeN.mk (by with_reducible exact Nat.le_refl _) | apply SameI.mk | apply SameN.mk | apply SameL.mk | apply SameB.mk | apply LeN.mk
              all_goals first | rfl | exact (ofN_succ _).symm | (simp only [toNat_ofN, NX.v, IX.v, Nat.le_refl]; done) | ((try simp only [toNat_ofN, NX.v, IX.v, nadd, nsub]); omega) | skip
          · obtain rfl := ge_len hc hi
            have h2 := h2 true (iff_yes (⟨h1, h4, hj⟩))
            cbv
            refine .mk ?_
            cbv
            refine .mk _ _ h2 ?_ ?_
            all_goals cbv
            all_goals repeat' first | apply And.intro | exact trivial | exact SameI.mk (by with_reducible rfl) | exact SameN.mk (by with_reducible rfl) | exact SameL.mk (by with_reducible rfl) | exact SameB.mk (by with_reducible rfl) | exact LeN.mk (by with_reducible exact Nat.le_refl _) | apply SameI.mk | apply SameN.mk | apply SameL.mk | apply SameB.mk | apply LeN.mk
            all_goals first | rfl | exact (ofN_succ _).symm | (simp only [toNat_ofN, NX.v, IX.v, Nat.le_refl]; done) | ((try simp only [toNat_ofN, NX.v, IX.v, nadd, nsub]); omega) | skip
  · cbv
    refine Br.mk (fun hc => ?_) (fun hc => ?_)
    · have h1 : ¬ 1 ≤ l.length := by have : ofN l.length < 1 := lt_t.1 hc; simp only [ofN] at this; omega
      have h2 := h2 false (iff_no fun h => absurd h.1 h1)
      cbv
      refine .mk _ _ h2 ?_ ?_
      all_goals cbv
      all_goals repeat' first | apply And.intro | exact trivial | exact SameI.mk (by with_reducible rfl) | exact SameN.mk (by with_reducible rfl) | exact SameL.mk (by with_reducible rfl) | exact SameB.mk (by with_reducible rfl) | exact LeN.mk (by with_reducible exact Nat.le_refl _) | apply SameI.mk | apply SameN.mk | apply SameL.mk | apply SameB.mk | apply LeN.mk
      all_goals first | rfl | exact (ofN_succ _).symm | (simp only [toNat_ofN, NX.v, IX.v, Nat.le_refl]; done) | ((try simp only [toNat_ofN, NX.v, IX.v, nadd, nsub]); omega) | skip
    · have h1 : 1 ≤ l.length := by have : ¬ ofN l.length < 1 := lt_f.1 hc; simp only [ofN] at this; omega
      cbv
      refine Br.mk (fun hc => ?_) (fun hc => ?_)
      · have h4 : ¬ l.length ≤ 4 := by have : 4 < ofN l.length := gt_t.1 hc; simp only [ofN] at this; omega
        have h2 := h2 false (iff_no fun h => absurd h.2.1 h4)
        cbv
        refine .mk _ _ h2 ?_ ?_
        all_goals cbv
        all_goals repeat' first | apply And.intro | exact trivial | exact SameI.mk (by with_reducible rfl) | exact SameN.mk (by with_reducible rfl) | exact SameL.mk (by with_reducible rfl) | exact SameB.mk (by with_reducible rfl) | exact LeN.mk (by with_reducible exact Nat.le_refl _) | apply SameI.mk | apply SameN.mk | apply SameL.mk | apply SameB.mk | apply LeN.mk
        all_goals first | rfl | exact (ofN_succ _).symm | (simp only [toNat_ofN, NX.v, IX.v, Nat.le_refl]; done) | ((try simp only [toNat_ofN, NX.v, IX.v, nadd, nsub]); omega) | skip
      · have h4 : l.length ≤ 4 := by have : ¬ 4 < ofN l.length := gt_f.1 hc; simp only [ofN] at this; omega
        cbv
        refine loop_inv [0, 3] (fun (i : Nat) => i ≤ l.length ∧ ∀ j, j < i → l.getD j 0 < 32768) (fun i => ⟨[.sl 0 (.l 0) (.l 0) 1 (.t fun _ => l.length) (.t fun _ => l.length) false, .undef, .undef, .int .i64 (.t fun _ => ofN i), .undef, .undef, .undef, .undef, .undef, .undef, .undef, .undef, .undef, .undef, .undef, .undef, .undef, .undef, .undef, .undef, .undef, .undef, .undef], WordsX.heap ⟨l, true⟩⟩) (fun i => l.length - i) 0 ⟨Nat.zero_le _, fun j h => absurd h (Nat.not_lt_zero j)⟩ ?_ ?_
        · cbv
          repeat' first | apply And.intro | exact trivial | exact SameI.mk (by with_reducible rfl) | exact SameN.mk (by with_reducible rfl) | exact SameL.mk (by with_reducible rfl) | exact SameB.mk (by with_reducible rfl) | exact LeN.mk (by with_reducible exact Nat.le_refl _) | apply SameI.mk | apply SameN.mk | apply SameL.mk | apply SameB.mk | apply LeN.mk
          all_goals first | rfl | exact (ofN_succ _).symm | (simp only [toNat_ofN, NX.v, IX.v, Nat.le_refl]; done) | ((try simp only [toNat_ofN, NX.v, IX.v, nadd, nsub]); omega) | skip
        · intro i R ⟨hi, hj⟩ hR
          have i0 := ofN_nonneg i
          cbv
          refine Br.mk (fun hc => ?_) (fun hc => ?_)
          · have hi2 := lt_len hc
            have e0 := at1_nums l i
            cbv
            refine Chk.mk (idx1 hi2) ?_
            cbv
            refine Chk.mk (idxN hi2) ?_
            cbv
            refine Br.mk (fun hc => ?_) (fun hc => ?_)
            · have h5 : ¬ l.getD i 0 < 32768 := by have : 32768 ≤ at1 (nums l) (ofN i).toNat := ge_t.1 hc; rw [e0] at this; simp only [ofN] at this; omega
              have h2 := h2 false (iff_no fun h => absurd (h.2.2 i hi2) h5)
              cbv
              refine .mk ?_
              cbv
              refine .mk _ _ h2 ?_ ?_
              all_goals cbv
              all_goals repeat' first | apply And.intro | exact trivial | exact SameI.mk (by with_reducible rfl) | exact SameN.mk (by with_reducible rfl) | exact SameL.mk (by with_reducible rfl) | exact SameB.mk (by with_reducible rfl) | exact LeN.mk (by with_reducible exact Nat.le_refl _) | apply SameI.mk | apply SameN.mk | apply SameL.mk | apply SameB.mk | apply LeN.mk
              all_goals first | rfl | exact (ofN_succ _).symm | (simp only [toNat_ofN, NX.v, IX.v, Nat.le_refl]; done) | ((try simp only [toNat_ofN, NX.v, IX.v, nadd, nsub]); omega) | skip
            · have h5 : l.getD i 0 < 32768 := by have : ¬ 32768 ≤ at1 (nums l) (ofN i).toNat := ge_f.1 hc; rw [e0] at this; simp only [ofN] at this; omega
              cbv
              refine Chk.mk (inc64 hi2 (by omega)) ?_
              cbv
              refine .mk (hR (i + 1) _ ⟨hi2, fun j h => by rcases Nat.lt_or_ge j i with h6 | h6; exact hj j h6; rw [show j = i by omega]; exact h5⟩ (by omega) ?_)
              cbv
              repeat' first | apply And.intro | exact trivial | exact SameI.mk (by with_reducible rfl) | exact SameN.mk (by with_reducible rfl) | exact SameL.mk (by with_reducible rfl) | exact SameB.mk (by with_reducible rfl) | exact LeN.mk (by with_reducible exact Nat.le_refl _) | apply SameI.mk | apply SameN.mk | apply SameL.mk | apply SameB.mk | apply LeN.mk
              all_goals first | rfl | exact (ofN_succ _).symm | (simp only [toNat_ofN, NX.v, IX.v, Nat.le_refl]; done) | ((try simp only [toNat_ofN, NX.v, IX.v, nadd, nsub]); omega) | skip
          · obtain rfl := ge_len hc hi
            have h2 := h2 true (iff_yes (⟨h1, h4, hj⟩))
            cbv
            refine .mk ?_
            cbv
            refine .mk _ _ h2 ?_ ?_
            all_goals cbv
            all_goals repeat' first | apply And.intro | exact trivial | exact SameI.mk (by with_reducible rfl) | exact SameN.mk (by with_reducible rfl) | exact SameL.mk (by with_reducible rfl) | exact SameB.mk (by with_reducible rfl) | exact LeN.mk (by with_reducible exact Nat.le_refl _) | apply SameI.mk | apply SameN.mk | apply SameL.mk | apply SameB.mk | apply LeN.mk
            all_goals first | rfl | exact (ofN_succ _).symm | (simp only [toNat_ofN, NX.v, IX.v, Nat.le_refl]; done) | ((try simp only [toNat_ofN, NX.v, IX.v, nadd, nsub]); omega) | skip
structure SameX where
  a : List Nat
  b : List Nat
  mt : Bool
def SameX.heap (x : SameX) : Heap := [some ⟨true, .rows [.int .u16] fun _ => nums x.a⟩, some ⟨x.mt, .rows [.int .u16] fun _ => nums x.b⟩]
def cSame : Con := con (fun x : SameX => [.sl 0 (.l 0) (.l 0) 1 (.t fun _ => x.a.length) (.t fun _ => x.a.length) false, .sl 1 (.l 0) (.l 0) 1 (.t fun _ => x.b.length) (.t fun _ => x.b.length) false]) SameX.heap (fun x => x.a.length = x.b.length ∧ x.a.length ≤ 1000)
  (fun x K => ∀ q : Bool, (q = true ↔ ∀ i, i < x.a.length → x.a.getD i 0 = x.b.getD i 0) → K (.bool (.t fun _ => q)) x.heap)
theorem s17 : Sound Tryd.prog 17 cSame := by
  refine k17.con tabOk envOk_nil mixed o17 fun x K hx h2 => ?_
  obtain ⟨a, b, mt⟩ := x
  have hab : a.length = b.length := hx.1
  have hl : a.length ≤ 1000 := hx.2
  cases mt
  · cbv
    refine Br.f (fun hc => ?_) (fun hc => ?_)
    · exact ne_t.1 hc (congrArg ofN hab)
    cbv
    refine loop_inv [0, 1, 5] (fun (i : Nat) => i ≤ a.length ∧ ∀ j, j < i → a.getD j 0 = b.getD j 0) (fun i => ⟨[.sl 0 (.l 0) (.l 0) 1 (.t fun _ => a.length) (.t fun _ => a.length) false, .sl 1 (.l 0) (.l 0) 1 (.t fun _ => b.length) (.t fun _ => b.length) false, .undef, .undef, .undef, .int .i64 (.t fun _ => ofN i), .undef, .undef, .undef, .undef, .undef, .undef, .undef, .undef, .undef, .undef, .undef, .undef, .undef, .undef, .undef, .undef, .undef, .undef, .undef, .undef], SameX.heap ⟨a, b, false⟩⟩) (fun i => a.length - i) 0 ⟨Nat.zero_le _, fun j h => absurd h (Nat.not_lt_zero j)⟩ ?_ ?_
    · cbv
      repeat' first | apply And.intro | exact trivial | exact SameI.mk (by with_reducible rfl) | exact SameN.mk (by with_reducible rfl) | exact SameL.mk (by with_reducible rfl) | exact SameB.mk (by with_reducible rfl) | exact LeN.mk (by with_reducible exact Nat.le_refl _) | apply SameI.mk | apply SameN.mk | apply SameL.mk | apply SameB.mk | apply LeN.mk
      all_goals first | rfl | exact (ofN_succ _).symm | (simp only [toNat_ofN, NX.v, IX.v, Nat.le_refl]; done) | ((try simp only [toNat_ofN, NX.v, IX.v, nadd, nsub]); omega) | skip
    · intro i R ⟨hi, hj⟩ hR
      have i0 := ofN_nonneg i
      cbv
      refine Br.mk (fun hc => ?_) (fun hc => ?_)
      · have hi2 := lt_len hc
        have hi3 : i < b.length := by omega
        have ea := at1_nums a i
        have eb := at1_nums b i
        cbv
        refine Chk.mk (idx1 hi2) ?_
        cbv
        refine Chk.mk (idx1 hi3) ?_
        cbv
        refine Chk.mk (idxN hi2) ?_
        cbv
        refine Chk.mk (idxN hi3) ?_
        cbv
        refine Br.mk (fun hc => ?_) (fun hc => ?_)
        · have h5 : a.getD i 0 ≠ b.getD i 0 := fun h => by
            have : at1 (nums a) (ofN i).toNat ≠ at1 (nums b) (ofN i).toNat := ne_t.1 hc
            rw [ea, eb, h] at this
            exact this rfl
          have h2 := h2 false (iff_no fun h => absurd (h i hi2) h5)
          cbv
          refine .mk ?_
          cbv
          refine .mk _ _ h2 ?_ ?_
          all_goals cbv
          all_goals repeat' first | apply And.intro | exact trivial | exact SameI.mk (by with_reducible rfl) | exact SameN.mk (by with_reducible rfl) | exact SameL.mk (by with_reducible rfl) | exact SameB.mk (by with_reducible rfl) | exact LeN.mk (by with_reducible exact Nat.le_refl _) | apply SameI.mk | apply SameN.mk | apply SameL.mk | apply SameB.mk | apply LeN.mk
          all_goals first | rfl | exact (ofN_succ _).symm | (simp only [toNat_ofN, NX.v, IX.v, Nat.le_refl]; done) | ((try simp only [toNat_ofN, NX.v, IX.v, nadd, nsub]); omega) | skip
        · have h5 : a.getD i 0 = b.getD i 0 := by
            have : at1 (nums a) (ofN i).toNat = at1 (nums b) (ofN i).toNat := ne_f.1 hc
            rw [ea, eb] at this
            exact ofN_inj this
          cbv
          refine Chk.mk (inc64 hi2 (by omega)) ?_
          cbv
          refine .mk (hR (i + 1) _ ⟨hi2, fun j h => by rcases Nat.lt_or_ge j i with h6 | h6; exact hj j h6; rw [show j = i by omega]; exact h5⟩ (by omega) ?_)
          cbv
          repeat' first | apply And.intro | exact trivial | exact SameI.mk (by with_reducible rfl) | exact SameN.mk (by with_reducible rfl) | exact SameL.mk (by with_reducible rfl) | exact SameB.mk (by with_reducible rfl) | exact LeN.mk (by with_reducible exact Nat.le_refl _) | apply SameI.mk | apply SameN.mk | apply SameL.mk | apply SameB.mk | apply LeN.mk
          all_goals first | rfl | exact (ofN_succ _).symm | (simp only [toNat_ofN, NX.v, IX.v, Nat.le_refl]; done) | ((try simp only [toNat_ofN, NX.v, IX.v, nadd, nsub]); omega) | skip
      · obtain rfl := ge_len hc hi
        have h2 := h2 true (iff_yes (hj))
        cbv
        refine .mk ?_
        cbv
        refine .mk _ _ h2 ?_ ?_
        all_goals cbv
        all_goals repeat' first | apply And.intro | exact trivial | exact SameI.mk (by with_reducible rfl) | exact SameN.mk (by with_reducible rfl) | exact SameL.mk (by with_reducible rfl) | exact SameB.mk (by with_reducible rfl) | exact LeN.mk (by with_reducible exact Nat.le_refl _) | apply SameI.mk | apply SameN.mk | apply SameL.mk | apply SameB.mk | apply LeN.mk
        all_goals first | rfl | exact (ofN_succ _).symm | (simp only [toNat_ofN, NX.v, IX.v, Nat.le_refl]; done) | ((try simp only [toNat_ofN, NX.v, IX.v, nadd, nsub]); omega) | skip
  · cbv
    refine Br.f (fun hc => ?_) (fun hc => ?_)
    · exact ne_t.1 hc (congrArg ofN hab)
    cbv
    refine loop_inv [0, 1, 5] (fun (i : Nat) => i ≤ a.length ∧ ∀ j, j < i → a.getD j 0 = b.getD j 0) (fun i => ⟨[.sl 0 (.l 0) (.l 0) 1 (.t fun _ => a.length) (.t fun _ => a.length) false, .sl 1 (.l 0) (.l 0) 1 (.t fun _ => b.length) (.t fun _ => b.length) false, .undef, .undef, .undef, .int .i64 (.t fun _ => ofN i), .undef, .undef, .undef, .undef, .undef, .undef, .undef, .undef, .undef, .undef, .undef, .undef, .undef, .undef, .undef, .undef, .undef, .undef, .undef, .undef], SameX.heap ⟨a, b, true⟩⟩) (fun i => a.length - i) 0 ⟨Nat.zero_le _, fun j h => absurd h (Nat.not_lt_zero j)⟩ ?_ ?_
    · cbv
      repeat' first | apply And.intro | exact trivial | exact SameI.mk (by with_reducible rfl) | exact SameN.mk (by with_reducible rfl) | exact SameL.mk (by with_reducible rfl) | exact SameB.mk (by with_reducible rfl) | exact LeN.mk (by with_reducible exact Nat.le_refl _) | apply SameI.mk | apply SameN.mk | apply SameL.mk | apply SameB.mk | apply LeN.mk
      all_goals first | rfl | exact (ofN_succ _).symm | (simp only [toNat_ofN, NX.v, IX.v, Nat.le_refl]; done) | ((try simp only [toNat_ofN, NX.v, IX.v, nadd, nsub]); omega) | skip
    · intro i R ⟨hi, hj⟩ hR
      have i0 := ofN_nonneg i
      cbv
      refine Br.mk (fun hc => ?_) (fun hc => ?_)
      · have hi2 := lt_len hc
        have hi3 : i < b.length := by omega
        have ea := at1_nums a i
        have eb := at1_nums b i
        cbv
        refine Chk.mk (idx1 hi2) ?_
        cbv
        refine Chk.mk (idx1 hi3) ?_
        cbv
        refine Chk.mk (idxN hi2) ?_
        cbv
        refine Chk.mk (idxN hi3) ?_
        cbv
        refine Br.mk (fun hc => ?_) (fun hc => ?_)
        · have h5 : a.getD i 0 ≠ b.getD i 0 := fun h => by
            have : at1 (nums a) (ofN i).toNat ≠ at1 (nums b) (ofN i).toNat := ne_t.1 hc
            rw [ea, eb, h] at this
            exact this rfl
          have h2 := h2 false (iff_no fun h => absurd (h i hi2) h5)
          cbv
          refine .mk ?_
          cbv
          refine .mk _ _ h2 ?_ ?_
          all_goals cbv
          all_goals repeat' first | apply And.intro | exact trivial | exact SameI.mk (by with_reducible rfl) | exact SameN.mk (by with_reducible rfl) | exact SameL.mk (by with_reducible rfl) | exact SameB.mk (by with_reducible rfl) | exact LeN.mk (by with_reducible exact Nat.le_refl _) | apply SameI.mk | apply SameN.mk | apply SameL.mk | apply SameB.mk | apply LeN.mk
          all_goals first | rfl | exact (ofN_succ _).symm | (simp only [toNat_ofN, NX.v, IX.v, Nat.le_refl]; done) | ((try simp only [toNat_ofN, NX.v, IX.v, nadd, nsub]); omega) | skip
        · have h5 : a.getD i 0 = b.getD i 0 := by
            have : at1 (nums a) (ofN i).toNat = at1 (nums b) (ofN i).toNat := ne_f.1 hc
            rw [ea, eb] at this
            exact ofN_inj this
          cbv
          refine Chk.mk (inc64 hi2 (by omega)) ?_
          cbv
          refine .mk (hR (i + 1) _ ⟨hi2, fun j h => by rcases Nat.lt_or_ge j i with h6 | h6; exact hj j h6; rw [show j = i by omega]; exact h5⟩ (by omega) ?_)
          cbv
          repeat' first | apply And.intro | exact trivial | exact SameI.mk (by with_reducible rfl) | exact SameN.mk (by with_reducible rfl) | exact SameL.mk (by with_reducible rfl) | exact SameB.mk (by with_reducible rfl) | exact LeN.mk (by with_reducible exact Nat.le_refl _) | apply SameI.mk | apply SameN.mk | apply SameL.mk | apply SameB.mk | apply LeN.mk
          all_goals first | rfl | exact (ofN_succ _).symm | (simp only [toNat_ofN, NX.v, IX.v, Nat.le_refl]; done) | ((try simp only [toNat_ofN, NX.v, IX.v, nadd, nsub]); omega) | skip
      · obtain rfl := ge_len hc hi
        have h2 := h2 true (iff_yes (hj))
        cbv
        refine .mk ?_
        cbv
        refine .mk _ _ h2 ?_ ?_
        all_goals cbv
        all_goals repeat' first | apply And.intro | exact trivial | exact SameI.mk (by with_reducible rfl) | exact SameN.mk (by with_reducible rfl) | exact SameL.mk (by with_reducible rfl) | exact SameB.mk (by with_reducible rfl) | exact LeN.mk (by with_reducible exact Nat.le_refl _) | apply SameI.mk | apply SameN.mk | apply SameL.mk | apply SameB.mk | apply LeN.mk
        all_goals first | rfl | exact (ofN_succ _).symm | (simp only [toNat_ofN, NX.v, IX.v, Nat.le_refl]; done) | ((try simp only [toNat_ofN, NX.v, IX.v, nadd, nsub]); omega) | skip
/-! ### hide -/
structure HideX where
  k : KeyX
  l : List Nat
  mt : Bool
def HideX.f (x : HideX) (i : Nat) : Nat := hideN x.k (x.l.getD i 0)
def cHideL : Con := con (fun x : HideX => [.agg x.k.cells, .sl 0 (.l 0) (.l 0) 1 (.t fun _ => x.l.length) (.t fun _ => x.l.length) false]) (fun x => [some ⟨x.mt, .rows [.int .u16] fun _ => nums x.l⟩]) (fun x => x.k.ok ∧ x.k.n = 15 ∧ x.l.length ≤ 1000 ∧ Below x.l 32768)
  (fun x K => K (.tuple [.sl 1 (.l 0) (.l 0) 1 (.t fun _ => x.l.length) (.t fun _ => x.l.length) false, .bool (.l true)]) [some ⟨x.mt, .rows [.int .u16] fun _ => nums x.l⟩, some ⟨true, .rows [.int .u16] fun _ => nums (listF x.l.length x.f)⟩])
theorem f13 : EnvOk Tryd.prog (env [(20, cHide)]) := envOk_cons envOk_nil s20 k20.callable
attribute [local irreducible] hideI hideN
theorem s12 : Sound Tryd.prog 12 cHideL := by
  refine k12.con tabOk f13 mixed o12 fun x K hx h2 => ?_
  obtain ⟨k, l, mt⟩ := x
  have hk : k.ok := hx.1
  have hn : k.n = 15 := hx.2.1
  have hl : l.length ≤ 1000 := hx.2.2.1
  have hb : Below l 32768 := hx.2.2.2
  obtain ⟨n, perm, pad⟩ := k
  have hn : n = 15 := hn
  subst hn
  cases mt
  · cbv
    refine loop_invN [.slot 6 [.int .u16]] [2, 6, 11, 12, 13] (fun (i : Nat) => i ≤ l.length) (fun i => ⟨[.undef, .undef, .ptr 1 (.l 0) (.l 0), .undef, .undef, .undef, .sl 2 (.l 0) (.l 0) 1 (.t fun _ => i) (.t fun _ => i) false, .undef, .undef, .undef, .undef, .sl 0 (.l 0) (.l 0) 1 (.t fun _ => l.length) (.t fun _ => l.length) false, .int .i64 (.t fun _ => ofN l.length), .int .i64 (.t fun _ => ofN i), .undef, .undef, .undef, .undef, .undef, .undef, .undef, .undef, .undef, .undef, .undef, .undef, .undef, .undef, .undef, .undef, .undef], [some ⟨false, .rows [.int .u16] fun _ => nums l⟩, some ⟨true, .cells (KeyX.cells ⟨15, perm, pad⟩)⟩, some ⟨true, .rows [.int .u16] fun _ => nums (listF i (HideX.f ⟨⟨15, perm, pad⟩, l, false⟩))⟩]⟩) (fun i => l.length - i) 0 (Nat.zero_le _) ?_ ?_
    · cbv
      repeat' first | apply And.intro | exact trivial | exact SameI.mk (by with_reducible rfl) | exact SameN.mk (by with_reducible rfl) | exact SameL.mk (by with_reducible rfl) | exact SameB.mk (by with_reducible rfl) | exact LeN.mk (by with_reducible exact Nat.le_refl _) | apply SameI.mk | apply SameN.mk | apply SameL.mk | apply SameB.mk | apply LeN.mk
      all_goals first | rfl | exact (ofN_succ _).symm | (simp only [toNat_ofN, NX.v, IX.v, Nat.le_refl]; done) | ((try simp only [toNat_ofN, NX.v, IX.v, nadd, nsub]); omega) | skip
    · intro i R hi hR
      have i0 := ofN_nonneg i
      cbv
      refine Br.mk (fun hc => ?_) (fun hc => ?_)
      · have hi2 := lt_len hc
        have hv := hb i hi2
        have e0 := at1_nums l i
        have e1 := hideI_eq hk (w := l.getD i 0) (by omega)
        cbv
        refine Chk.mk (idx1 hi2) ?_
        cbv
        refine Chk.mk (idxN hi2) ?_
        cbv
        refine ⟨(⟨15, perm, pad⟩, ofN (l.getD i 0)), ⟨hk, ofN_nonneg _, ofN_lt.2 hv⟩, Ent.of_wvs ?_, trivial, ?_⟩
        · cbv
          repeat' first | apply And.intro | exact trivial | exact SameI.mk (by with_reducible rfl) | exact SameN.mk (by with_reducible rfl) | exact SameL.mk (by with_reducible rfl) | exact SameB.mk (by with_reducible rfl) | exact LeN.mk (by with_reducible exact Nat.le_refl _) | apply SameI.mk | apply SameN.mk | apply SameL.mk | apply SameB.mk | apply LeN.mk
          all_goals first | rfl | exact (ofN_succ _).symm | (simp only [toNat_ofN, NX.v, IX.v, Nat.le_refl]; done) | ((try simp only [toNat_ofN, NX.v, IX.v, nadd, nsub]); omega) | skip
          all_goals exact e0
        cbv
        refine Chk.mk (Nat.le_refl _) ?_
        cbv
        refine Chk.mk (by (try simp only [NX.v, IX.v, nadd, nsub, nmul, aop_add, aop_sub, aop_mul, toNat_ofN, ints_length, List.length_append, List.length_take, List.length_drop, List.length_replicate, List.length_cons, List.length_nil, List.length_map, maxBytes, nums_length, listF_length]); (try simp only [ofN]); omega) ?_
        cbv
        refine Chk.mk (by (try simp only [NX.v, IX.v, nadd, nsub, nmul, aop_add, aop_sub, aop_mul, toNat_ofN, ints_length, List.length_append, List.length_take, List.length_drop, List.length_replicate, List.length_cons, List.length_nil, List.length_map, maxBytes]); (try simp only [ofN]); omega) ?_
        cbv
        refine App.either rfl ?_
        cbv
        refine Chk.mk (inc64 hi2 (by omega)) ?_
        cbv
        refine .mk (hR (i + 1) _ hi2 (by omega) ?_)
        cbv
        repeat' first | apply And.intro | exact trivial | exact SameI.mk (by with_reducible rfl) | exact SameN.mk (by with_reducible rfl) | exact SameL.mk (by with_reducible rfl) | exact SameB.mk (by with_reducible rfl) | exact LeN.mk (by with_reducible exact Nat.le_refl _) | apply SameI.mk | apply SameN.mk | apply SameL.mk | apply SameB.mk | apply LeN.mk
        all_goals first | rfl | exact (ofN_succ _).symm | (simp only [toNat_ofN, NX.v, IX.v, Nat.le_refl]; done) | ((try simp only [toNat_ofN, NX.v, IX.v, nadd, nsub]); omega) | skip
        · show ((nums (listF i (HideX.f ⟨⟨15, perm, pad⟩, l, false⟩))).drop 0).take i ++ [[D.i (hideI ⟨15, perm, pad⟩ (ofN (l.getD i 0)))]] = nums (listF (i + 1) (HideX.f ⟨⟨15, perm, pad⟩, l, false⟩))
          rw [e1]
          exact grow_nums (HideX.f ⟨⟨15, perm, pad⟩, l, false⟩) i
      · obtain rfl := ge_len hc hi
        cbv
        refine .mk ?_
        cbv
        refine .mk _ _ h2 ?_ ?_
        all_goals cbv
        all_goals repeat' first | apply And.intro | exact trivial | exact SameI.mk (by with_reducible rfl) | exact SameN.mk (by with_reducible rfl) | exact SameL.mk (by with_reducible rfl) | exact SameB.mk (by with_reducible rfl) | exact LeN.mk (by with_reducible exact Nat.le_refl _) | apply SameI.mk | apply SameN.mk | apply SameL.mk | apply SameB.mk | apply LeN.mk
        all_goals first | rfl | exact (ofN_succ _).symm | (simp only [toNat_ofN, NX.v, IX.v, Nat.le_refl]; done) | ((try simp only [toNat_ofN, NX.v, IX.v, nadd, nsub]); omega) | skip
  · cbv
    refine loop_invN [.slot 6 [.int .u16]] [2, 6, 11, 12, 13] (fun (i : Nat) => i ≤ l.length) (fun i => ⟨[.undef, .undef, .ptr 1 (.l 0) (.l 0), .undef, .undef, .undef, .sl 2 (.l 0) (.l 0) 1 (.t fun _ => i) (.t fun _ => i) false, .undef, .undef, .undef, .undef, .sl 0 (.l 0) (.l 0) 1 (.t fun _ => l.length) (.t fun _ => l.length) false, .int .i64 (.t fun _ => ofN l.length), .int .i64 (.t fun _ => ofN i), .undef, .undef, .undef, .undef, .undef, .undef, .undef, .undef, .undef, .undef, .undef, .undef, .undef, .undef, .undef, .undef, .undef], [some ⟨true, .rows [.int .u16] fun _ => nums l⟩, some ⟨true, .cells (KeyX.cells ⟨15, perm, pad⟩)⟩, some ⟨true, .rows [.int .u16] fun _ => nums (listF i (HideX.f ⟨⟨15, perm, pad⟩, l, true⟩))⟩]⟩) (fun i => l.length - i) 0 (Nat.zero_le _) ?_ ?_
    · cbv
      repeat' first | apply And.intro | exact trivial | exact SameI.mk (by with_reducible rfl) | exact SameN.mk (by with_reducible rfl) | exact SameL.mk (by with_reducible rfl) | exact SameB.mk (by with_reducible rfl) | exact LeN.mk (by with_reducible exact Nat.le_refl _) | apply SameI.mk | apply SameN.mk | apply SameL.mk | apply SameB.mk | apply LeN.mk
      all_goals first | rfl | exact (ofN_succ _).symm | (simp only [toNat_ofN, NX.v, IX.v, Nat.le_refl]; done) | ((try simp only [toNat_ofN, NX.v, IX.v, nadd, nsub]); omega) | skip
    · intro i R hi hR
      have i0 := ofN_nonneg i
      cbv
      refine Br.mk (fun hc => ?_) (fun hc => ?_)
      · have hi2 := lt_len hc
        have hv := hb i hi2
        have e0 := at1_nums l i
        have e1 := hideI_eq hk (w := l.getD i 0) (by omega)
        cbv
        refine Chk.mk (idx1 hi2) ?_
        cbv
        refine Chk.mk (idxN hi2) ?_
        cbv
        refine ⟨(⟨15, perm, pad⟩, ofN (l.getD i 0)), ⟨hk, ofN_nonneg _, ofN_lt.2 hv⟩, Ent.of_wvs ?_, trivial, ?_⟩
        · cbv
          repeat' first | apply And.intro | exact trivial | exact SameI.mk (by with_reducible rfl) | exact SameN.mk (by with_reducible rfl) | exact SameL.mk (by with_reducible rfl) | exact SameB.mk (by with_reducible rfl) | exact LeN.mk (by with_reducible exact Nat.le_refl _) | apply SameI.mk | apply SameN.mk | apply SameL.mk | apply SameB.mk | apply LeN.mk
          all_goals first | rfl | exact (ofN_succ _).symm | (simp only [toNat_ofN, NX.v, IX.v, Nat.le_refl]; done) | ((try simp only [toNat_ofN, NX.v, IX.v, nadd, nsub]); omega) | skip
          all_goals exact e0
        cbv
        refine Chk.mk (Nat.le_refl _) ?_
        cbv
        refine Chk.mk (by (try simp only [NX.v, IX.v, nadd, nsub, nmul, aop_add, aop_sub, aop_mul, toNat_ofN, ints_length, List.length_append, List.length_take, List.length_drop, List.length_replicate, List.length_cons, List.length_nil, List.length_map, maxBytes, nums_length, listF_length]); (try simp only [ofN]); omega) ?_
        cbv
        refine Chk.mk (by (try simp only [NX.v, IX.v, nadd, nsub, nmul, aop_add, aop_sub, aop_mul, toNat_ofN, ints_length, List.length_append, List.length_take, List.length_drop, List.length_replicate, List.length_cons, List.length_nil, List.length_map, maxBytes]); (try simp only [ofN]); omega) ?_
        cbv
        refine App.either rfl ?_
        cbv
        refine Chk.mk (inc64 hi2 (by omega)) ?_
        cbv
        refine .mk (hR (i + 1) _ hi2 (by omega) ?_)
        cbv
        repeat' first | apply And.intro | exact trivial | exact SameI.mk (by with_reducible rfl) | exact SameN.mk (by with_reducible rfl) | exact SameL.mk (by with_reducible rfl) | exact SameB.mk (by with_reducible rfl) | exact LeN.mk (by with_reducible exact Nat.le_refl _) | apply SameI.mk | apply SameN.mk | apply SameL.mk | apply SameB.mk | apply LeN.mk
        all_goals first | rfl | exact (ofN_succ _).symm | (simp only [toNat_ofN, NX.v, IX.v, Nat.le_refl]; done) | ((try simp only [toNat_ofN, NX.v, IX.v, nadd, nsub]); omega) | skip
        · show ((nums (listF i (HideX.f ⟨⟨15, perm, pad⟩, l, true⟩))).drop 0).take i ++ [[D.i (hideI ⟨15, perm, pad⟩ (ofN (l.getD i 0)))]] = nums (listF (i + 1) (HideX.f ⟨⟨15, perm, pad⟩, l, true⟩))
          rw [e1]
          exact grow_nums (HideX.f ⟨⟨15, perm, pad⟩, l, true⟩) i
      · obtain rfl := ge_len hc hi
        cbv
        refine .mk ?_
        cbv
        refine .mk _ _ h2 ?_ ?_
        all_goals cbv
        all_goals repeat' first | apply And.intro | exact trivial | exact SameI.mk (by with_reducible rfl) | exact SameN.mk (by with_reducible rfl) | exact SameL.mk (by with_reducible rfl) | exact SameB.mk (by with_reducible rfl) | exact LeN.mk (by with_reducible exact Nat.le_refl _) | apply SameI.mk | apply SameN.mk | apply SameL.mk | apply SameB.mk | apply LeN.mk
        all_goals first | rfl | exact (ofN_succ _).symm | (simp only [toNat_ofN, NX.v, IX.v, Nat.le_refl]; done) | ((try simp only [toNat_ofN, NX.v, IX.v, nadd, nsub]); omega) | skip
end Go.Proofs.YtlgmbpnlakjefaaDoor
end

section
/- Contracts: sketches, and what recovers from them. -/
namespace Go.Proofs.YtlgmbpnlakjefaaDoor
open Go.Sy
set_option maxRecDepth 100000
set_option maxHeartbeats 2000000
set_option linter.unusedSimpArgs false
set_option linter.unusedVariables false
theorem fill_nums {n i : Nat} (f : Nat → Nat) (h : i < n) : (nums (listF i f ++ List.replicate (n - i) 0)).set (ofN i).toNat (((nums (listF i f ++ List.replicate (n - i) 0)).getD (ofN i).toNat []).set 0 (.i (ofN (f i)))) = nums (listF (i + 1) f ++ List.replicate (n - (i + 1)) 0) := by
  unfold nums
  rw [toNat_ofN, ints_set _ _ _ (by simp [listF_length]; omega), ← List.map_set]
  congr 1
  congr 1
  rw [List.set_append_right _ _ (by rw [listF_length]; exact Nat.le_refl _), listF_length, Nat.sub_self, show n - i = (n - (i + 1)) + 1 by omega, List.replicate_succ, List.set_cons_zero]
  simp [listF, List.range_succ]
theorem fill_zero (n : Nat) (f : Nat → Nat) : List.replicate (ofN n).toNat [D.i 0] = nums (listF 0 f ++ List.replicate (n - 0) 0) := by
  rw [toNat_ofN]
  simp [nums, ints, listF, ofN]
theorem fill_all (n : Nat) (f : Nat → Nat) : listF n f ++ List.replicate (n - n) 0 = listF n f := by simp
theorem rest15 {kd : Nat} (hk : Kind3 kd) (w : Nat) : restL kd w < 32768 := by
  have h1 := restL_lt hk w
  have h2 := (two_kd hk).2.1
  omega
structure SkX where
  kd : Nat
  l : List Nat
def SkX.f (x : SkX) (i : Nat) : Nat := restL x.kd (x.l.getD i 0)
def cSketch : Con := con (fun x : SkX => [.int .u8 (.t fun _ => ofN x.kd), .sl 0 (.l 0) (.l 0) 1 (.t fun _ => x.l.length) (.t fun _ => x.l.length) false]) (fun x => [some ⟨true, .rows [.int .u16] fun _ => nums x.l⟩]) (fun x => Kind3 x.kd ∧ 1 ≤ x.l.length ∧ x.l.length ≤ 4 ∧ Below x.l 32768)
  (fun x K => K (.tuple [.sl 1 (.l 0) (.l 0) 1 (.t fun _ => x.l.length) (.t fun _ => x.l.length) false, .int .i64 (.l 0)]) [some ⟨true, .rows [.int .u16] fun _ => nums x.l⟩, some ⟨true, .rows [.int .u16] fun _ => nums (listF x.l.length x.f)⟩])
theorem f14 : EnvOk Tryd.prog (env [(25, cKind), (26, cTemplate), (27, cRest)]) :=
  envOk_cons (envOk_cons (envOk_cons envOk_nil s27 k27.callable) s26 k26.callable) s25 k25.callable
attribute [local irreducible] restL errN codeN decN
theorem s13 : Sound Tryd.prog 13 cSketch := by
  refine k13.con tabOk f14 mixed o13 fun x K hx h2 => ?_
  obtain ⟨kd, l⟩ := x
  have hk : Kind3 kd := hx.1
  have hl1 : 1 ≤ l.length := hx.2.1
  have hl : l.length ≤ 4 := hx.2.2.1
  have hb : Below l 32768 := hx.2.2.2
  have h2 : K (.tuple [.sl 1 (.l 0) (.l 0) 1 (.t fun _ => l.length) (.t fun _ => l.length) false, .int .i64 (.l 0)]) [some ⟨true, .rows [.int .u16] fun _ => nums l⟩, some ⟨true, .rows [.int .u16] fun _ => nums (listF l.length (SkX.f ⟨kd, l⟩) ++ List.replicate (l.length - l.length) 0)⟩] := by rw [fill_all]; exact h2
  cbv
  refine ⟨kd, hk, Ent.of_wvs ?_, trivial, ?_⟩
  · cbv
    repeat' first | apply And.intro | exact trivial | exact SameI.mk (by with_reducible rfl) | exact SameN.mk (by with_reducible rfl) | exact SameL.mk (by with_reducible rfl) | exact SameB.mk (by with_reducible rfl) | exact LeN.mk (by with_reducible exact Nat.le_refl _) | apply SameI.mk | apply SameN.mk | apply SameL.mk | apply SameB.mk | apply LeN.mk
    all_goals first | rfl | exact (ofN_succ _).symm | (simp only [toNat_ofN, NX.v, IX.v, Nat.le_refl]; done) | ((try simp only [toNat_ofN, NX.v, IX.v, nadd, nsub]); omega) | skip
  cbv
  refine ⟨⟨l, true⟩, ⟨hl1, hl, hb⟩, Ent.of_wvs ?_, ?_, ?_⟩
  · cbv
    repeat' first | apply And.intro | exact trivial | exact SameI.mk (by with_reducible rfl) | exact SameN.mk (by with_reducible rfl) | exact SameL.mk (by with_reducible rfl) | exact SameB.mk (by with_reducible rfl) | exact LeN.mk (by with_reducible exact Nat.le_refl _) | apply SameI.mk | apply SameN.mk | apply SameL.mk | apply SameB.mk | apply LeN.mk
    all_goals first | rfl | exact (ofN_succ _).symm | (simp only [toNat_ofN, NX.v, IX.v, Nat.le_refl]; done) | ((try simp only [toNat_ofN, NX.v, IX.v, nadd, nsub]); omega) | skip
  · cbv
    repeat' first | apply And.intro | exact trivial | exact SameI.mk (by with_reducible rfl) | exact SameN.mk (by with_reducible rfl) | exact SameL.mk (by with_reducible rfl) | exact SameB.mk (by with_reducible rfl) | exact LeN.mk (by with_reducible exact Nat.le_refl _) | apply SameI.mk | apply SameN.mk | apply SameL.mk | apply SameB.mk | apply LeN.mk
    all_goals first | rfl | exact (ofN_succ _).symm | (simp only [toNat_ofN, NX.v, IX.v, Nat.le_refl]; done) | ((try simp only [toNat_ofN, NX.v, IX.v, nadd, nsub]); omega) | skip
  cbv
  refine Chk.mk (mk1 (by omega) (by decide)) ?_
  cbv
  refine loop_inv [6, 8, 26, 27, 28] (fun (i : Nat) => i ≤ l.length) (fun i => ⟨[.undef, .undef, .undef, .undef, .undef, .undef, .ptr 1 (.l 0) (.l 0), .undef, .sl 2 (.l 0) (.l 0) 1 (.t fun _ => l.length) (.t fun _ => l.length) false, .undef, .undef, .undef, .undef, .undef, .undef, .undef, .undef, .undef, .undef, .undef, .undef, .undef, .undef, .undef, .undef, .undef, .sl 0 (.l 0) (.l 0) 1 (.t fun _ => l.length) (.t fun _ => l.length) false, .int .i64 (.t fun _ => ofN l.length), .int .i64 (.t fun _ => ofN i), .undef, .undef, .undef, .undef, .undef, .undef, .undef, .undef, .undef, .undef, .undef, .undef], [some ⟨true, .rows [.int .u16] fun _ => nums l⟩, some ⟨true, .cells (codeC kd)⟩, some ⟨true, .rows [.int .u16] fun _ => nums (listF i (SkX.f ⟨kd, l⟩) ++ List.replicate (l.length - i) 0)⟩]⟩) (fun i => l.length - i) 0 (Nat.zero_le _) ?_ ?_
  · cbv
    repeat' first | apply And.intro | exact trivial | exact SameI.mk (by with_reducible rfl) | exact SameN.mk (by with_reducible rfl) | exact SameL.mk (by with_reducible rfl) | exact SameB.mk (by with_reducible rfl) | exact LeN.mk (by with_reducible exact Nat.le_refl _) | apply SameI.mk | apply SameN.mk | apply SameL.mk | apply SameB.mk | apply LeN.mk
    all_goals first | rfl | exact (ofN_succ _).symm | (simp only [toNat_ofN, NX.v, IX.v, Nat.le_refl]; done) | ((try simp only [toNat_ofN, NX.v, IX.v, nadd, nsub]); omega) | skip
    all_goals exact fill_zero _ _
  · intro i R hi hR
    have i0 := ofN_nonneg i
    cbv
    refine Br.mk (fun hc => ?_) (fun hc => ?_)
    · have hi2 := lt_len hc
      have hv := hb i hi2
      have e0 := at1_nums l i
      have hlen : (listF i (SkX.f ⟨kd, l⟩) ++ List.replicate (l.length - i) 0).length = l.length := by simp [listF_length]; omega
      cbv
      refine Chk.mk (idx1 hi2) ?_
      cbv
      refine Chk.mk (idxN hi2) ?_
      cbv
      refine ⟨(kd, l.getD i 0), ⟨hk, hv⟩, Ent.of_wvs ?_, trivial, ?_⟩
      · cbv
        repeat' first | apply And.intro | exact trivial | exact SameI.mk (by with_reducible rfl) | exact SameN.mk (by with_reducible rfl) | exact SameL.mk (by with_reducible rfl) | exact SameB.mk (by with_reducible rfl) | exact LeN.mk (by with_reducible exact Nat.le_refl _) | apply SameI.mk | apply SameN.mk | apply SameL.mk | apply SameB.mk | apply LeN.mk
        all_goals first | rfl | exact (ofN_succ _).symm | (simp only [toNat_ofN, NX.v, IX.v, Nat.le_refl]; done) | ((try simp only [toNat_ofN, NX.v, IX.v, nadd, nsub]); omega) | skip
        all_goals exact e0
      cbv
      refine Chk.mk (idx1 hi2) ?_
      cbv
      refine Chk.mk (idxN (by rw [hlen]; exact hi2)) ?_
      cbv
      refine Chk.mk (inc64 hi2 (by omega)) ?_
      cbv
      refine .mk (hR (i + 1) _ hi2 (by omega) ?_)
      cbv
      repeat' first | apply And.intro | exact trivial | exact SameI.mk (by with_reducible rfl) | exact SameN.mk (by with_reducible rfl) | exact SameL.mk (by with_reducible rfl) | exact SameB.mk (by with_reducible rfl) | exact LeN.mk (by with_reducible exact Nat.le_refl _) | apply SameI.mk | apply SameN.mk | apply SameL.mk | apply SameB.mk | apply LeN.mk
      all_goals first | rfl | exact (ofN_succ _).symm | (simp only [toNat_ofN, NX.v, IX.v, Nat.le_refl]; done) | ((try simp only [toNat_ofN, NX.v, IX.v, nadd, nsub]); omega) | skip
      all_goals exact fill_nums (SkX.f ⟨kd, l⟩) hi2
    · obtain rfl := ge_len hc hi
      cbv
      refine .mk ?_
      cbv
      refine .mk _ _ h2 ?_ ?_
      all_goals cbv
      all_goals repeat' first | apply And.intro | exact trivial | exact SameI.mk (by with_reducible rfl) | exact SameN.mk (by with_reducible rfl) | exact SameL.mk (by with_reducible rfl) | exact SameB.mk (by with_reducible rfl) | exact LeN.mk (by with_reducible exact Nat.le_refl _) | apply SameI.mk | apply SameN.mk | apply SameL.mk | apply SameB.mk | apply LeN.mk
      all_goals first | rfl | exact (ofN_succ _).symm | (simp only [toNat_ofN, NX.v, IX.v, Nat.le_refl]; done) | ((try simp only [toNat_ofN, NX.v, IX.v, nadd, nsub]); omega) | skip
end Go.Proofs.YtlgmbpnlakjefaaDoor
end
