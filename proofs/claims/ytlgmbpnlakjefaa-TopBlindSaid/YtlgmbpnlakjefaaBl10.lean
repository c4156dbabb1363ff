/- Contracts: orders undone and numbered. -/
import Derived.Test.YtlgmbpnlakjefaaBl9
namespace Go.Proofs.Ytlgmbpnlakjefaa
open Go.Sy
set_option maxRecDepth 100000
set_option maxHeartbeats 1000000
set_option linter.unusedSimpArgs false
set_option linter.unusedVariables false
/-! ### inverse -/
def invTo (l : List Int) : Nat → List Int
  | 0 => List.replicate l.length 0
  | i + 1 => (invTo l i).set (l.getD i 0).toNat (ofN i)
theorem invTo_length (l : List Int) (i : Nat) : (invTo l i).length = l.length := by
  induction i with
  | zero => simp [invTo]
  | succ i ih => simp [invTo, ih]
def cInverse : Con := con (fun l : List Int => [.sl 0 (.l 0) (.l 0) 1 (.t fun _ => l.length) (.t fun _ => l.length) false]) (fun l => [some ⟨true, .rows [.int .i64] fun _ => ints l⟩]) (fun l => l.length ≤ 1000 ∧ ∀ i, i < l.length → 0 ≤ l.getD i 0 ∧ l.getD i 0 < ofN l.length)
  (fun l K => K (.sl 1 (.l 0) (.l 0) 1 (.t fun _ => l.length) (.t fun _ => l.length) false) [some ⟨true, .rows [.int .i64] fun _ => ints l⟩, some ⟨true, .rows [.int .i64] fun _ => ints (invTo l l.length)⟩])
theorem s71 : Sound Try.prog 71 cInverse := by
  refine k71.con tabOk envOk_nil mixed o71 fun l K hl h2 => ?_
  obtain ⟨hl, ho⟩ := hl
  cbv
  refine Chk.mk (mk1 (by omega) (by decide)) ?_
  cbv
  refine loop_inv [3, 9, 10, 11] (fun (i : Nat) => i ≤ l.length) (fun i => ⟨[.undef, .undef, .undef, .sl 1 (.l 0) (.l 0) 1 (.t fun _ => l.length) (.t fun _ => l.length) false, .undef, .undef, .undef, .undef, .undef, .sl 0 (.l 0) (.l 0) 1 (.t fun _ => l.length) (.t fun _ => l.length) false, .int .i64 (.t fun _ => ofN l.length), .int .i64 (.t fun _ => ofN i), .undef, .undef, .undef, .undef, .undef, .undef, .undef, .undef, .undef, .undef], [some ⟨true, .rows [.int .i64] fun _ => ints l⟩, some ⟨true, .rows [.int .i64] fun _ => ints (invTo l i)⟩]⟩) (fun i => l.length - i) 0 (Nat.zero_le _) ?_ ?_
  · cbv
    repeat' first | apply And.intro | exact trivial | exact SameI.mk (by with_reducible rfl) | exact SameN.mk (by with_reducible rfl) | exact SameL.mk (by with_reducible rfl) | exact SameB.mk (by with_reducible rfl) | exact LeN.mk (by with_reducible exact Nat.le_refl _) | apply SameI.mk | apply SameN.mk | apply SameL.mk | apply SameB.mk | apply LeN.mk
    all_goals first | rfl | exact (ofN_succ _).symm | (simp only [toNat_ofN, NX.v, IX.v, Nat.le_refl]; done) | ((try simp only [toNat_ofN, NX.v, IX.v, nadd, nsub]); omega) | skip
    show List.replicate (ofN l.length).toNat [D.i 0] = _
    rw [toNat_ofN, ints_zero]; rfl
  · intro i R hi hR
    have i0 := ofN_nonneg i
    cbv
    refine Br.mk (fun hc => ?_) (fun hc => ?_)
    · have hi2 := lt_len hc
      have hv := ho i hi2
      have ea : at1 (ints l) (ofN i).toNat = l.getD i 0 := ld
      cbv
      refine Chk.mk (idx1 hi2) ?_
      cbv
      refine Chk.mk (idx2 hi2) ?_
      cbv
      refine Chk.mk ?_ ?_
      · show 0 ≤ at1 (ints l) (ofN i).toNat ∧ at1 (ints l) (ofN i).toNat < ofN l.length
        rw [ea]; exact hv
      cbv
      refine Chk.mk ?_ ?_
      · show 0 ≤ ofN (at1 (ints l) (ofN i).toNat).toNat ∧ ofN (at1 (ints l) (ofN i).toNat).toNat < ofN (ints (invTo l i)).length
        rw [ea]; exact idx4 hv.1 (by rw [invTo_length]; exact hv.2)
      cbv
      refine Chk.mk (inc64 hi2 (by omega)) ?_
      cbv
      refine .mk (hR (i + 1) _ hi2 (by omega) ?_)
      cbv
      repeat' first | apply And.intro | exact trivial | exact SameI.mk (by with_reducible rfl) | exact SameN.mk (by with_reducible rfl) | exact SameL.mk (by with_reducible rfl) | exact SameB.mk (by with_reducible rfl) | exact LeN.mk (by with_reducible exact Nat.le_refl _) | apply SameI.mk | apply SameN.mk | apply SameL.mk | apply SameB.mk | apply LeN.mk
      all_goals first | rfl | exact (ofN_succ _).symm | (simp only [toNat_ofN, NX.v, IX.v, Nat.le_refl]; done) | ((try simp only [toNat_ofN, NX.v, IX.v, nadd, nsub]); omega) | skip
      show (ints (invTo l i)).set (at1 (ints l) (ofN i).toNat).toNat (((ints (invTo l i)).getD (at1 (ints l) (ofN i).toNat).toNat []).set 0 (.i (ofN i))) = _
      rw [ea, ints_set _ _ _ (by rw [invTo_length]; have := hv.2; simp only [ofN] at this; omega)]
      rfl
    · obtain rfl := ge_len hc hi
      cbv
      refine .mk ?_
      cbv
      refine .mk _ _ h2 ?_ ?_
      all_goals cbv
      all_goals repeat' first | apply And.intro | exact trivial | exact SameI.mk (by with_reducible rfl) | exact SameN.mk (by with_reducible rfl) | exact SameL.mk (by with_reducible rfl) | exact SameB.mk (by with_reducible rfl) | exact LeN.mk (by with_reducible exact Nat.le_refl _) | apply SameI.mk | apply SameN.mk | apply SameL.mk | apply SameB.mk | apply LeN.mk
      all_goals first | rfl | exact (ofN_succ _).symm | (simp only [toNat_ofN, NX.v, IX.v, Nat.le_refl]; done) | ((try simp only [toNat_ofN, NX.v, IX.v, nadd, nsub]); omega) | skip
/-! ### number -/
def lessTo (l : List Int) (i : Nat) : Nat → Nat
  | 0 => 0
  | j + 1 => lessTo l i j + (if l.getD (i + 1 + j) 0 < l.getD i 0 then 1 else 0)
theorem lessTo_le (l : List Int) (i j : Nat) : lessTo l i j ≤ j := by
  induction j with
  | zero => exact Nat.le_refl _
  | succ j ih => simp only [lessTo]; split <;> omega
def numTo (l : List Int) : Nat → Nat
  | 0 => 0
  | i + 1 => numTo l i * (l.length - i) + lessTo l i (l.length - (i + 1))
theorem fact_pos (n : Nat) : 0 < fact n := by
  induction n with
  | zero => decide
  | succ n ih => simp only [fact]; exact Nat.mul_pos ih (by omega)
theorem numTo_lt (l : List Int) (i : Nat) (hi : i ≤ l.length) : (numTo l i + 1) * fact (l.length - i) ≤ fact l.length := by
  induction i with
  | zero => simp [numTo]
  | succ i ih =>
    have h := ih (by omega)
    have e : l.length - i = (l.length - (i + 1)) + 1 := by omega
    refine Nat.le_trans ?_ h
    have hl := lessTo_le l i (l.length - (i + 1))
    simp only [numTo]
    rw [e]
    generalize l.length - (i + 1) = m at *
    simp only [fact]
    have : (numTo l i * (m + 1) + lessTo l i m + 1) ≤ (numTo l i + 1) * (m + 1) := by
      rw [Nat.add_mul]; omega
    calc _ ≤ (numTo l i + 1) * (m + 1) * fact m := Nat.mul_le_mul_right _ this
      _ = _ := by rw [Nat.mul_assoc, Nat.mul_comm (m + 1)]
def cNumber : Con := con (fun l : List Int => [.sl 0 (.l 0) (.l 0) 1 (.t fun _ => l.length) (.t fun _ => l.length) false]) (fun l => [some ⟨true, .rows [.int .i64] fun _ => ints l⟩]) (fun l => l.length ≤ 15)
  (fun l K => K (.int .i64 (.t fun _ => ofN (numTo l l.length))) [some ⟨true, .rows [.int .i64] fun _ => ints l⟩])
theorem s69 : Sound Try.prog 69 cNumber := by
  refine k69.con tabOk envOk_nil mixed o69 fun l K hl h2 => ?_
  cbv
  refine loop_inv [0, 3, 9, 10, 11] (fun (i : Nat) => i ≤ l.length) (fun i => ⟨[.sl 0 (.l 0) (.l 0) 1 (.t fun _ => l.length) (.t fun _ => l.length) false, .undef, .undef, .int .i64 (.t fun _ => ofN (numTo l i)), .undef, .undef, .undef, .undef, .undef, .sl 0 (.l 0) (.l 0) 1 (.t fun _ => l.length) (.t fun _ => l.length) false, .int .i64 (.t fun _ => ofN l.length), .int .i64 (.t fun _ => ofN i), .undef, .undef, .undef, .undef, .undef, .undef, .undef, .undef, .undef, .undef, .undef, .undef, .undef, .undef, .undef, .undef, .undef, .undef, .undef, .undef, .undef, .undef, .undef, .undef, .undef, .undef, .undef, .undef, .undef], [some ⟨true, .rows [.int .i64] fun _ => ints l⟩]⟩) (fun i => l.length - i) 0 (Nat.zero_le _) ?_ ?_
  · cbv
    repeat' first | apply And.intro | exact trivial | exact SameI.mk (by with_reducible rfl) | exact SameN.mk (by with_reducible rfl) | exact SameL.mk (by with_reducible rfl) | exact SameB.mk (by with_reducible rfl) | exact LeN.mk (by with_reducible exact Nat.le_refl _) | apply SameI.mk | apply SameN.mk | apply SameL.mk | apply SameB.mk | apply LeN.mk
    all_goals first | rfl | exact (ofN_succ _).symm | (simp only [toNat_ofN, NX.v, IX.v, Nat.le_refl]; done) | ((try simp only [toNat_ofN, NX.v, IX.v, nadd, nsub]); omega) | skip
  · intro i R hi hR
    have i0 := ofN_nonneg i
    cbv
    refine Br.mk (fun hc => ?_) (fun hc => ?_)
    · have hi2 := lt_len hc
      have ea : at1 (ints l) (ofN i).toNat = l.getD i 0 := ld
      cbv
      refine Chk.mk (idx1 hi2) ?_
      cbv
      refine Chk.mk (idx2 hi2) ?_
      cbv
      refine Chk.mk (inc64 hi2 (by omega)) ?_
      cbv
      have e1 : (aop .add (ofN i) 1).toNat = i + 1 := by rw [aop_add]; simp only [ofN]; omega
      refine Chk.mk ((by show 0 ≤ ofN i + 1; omega)) ?_
      cbv
      refine Chk.mk (Nat.le_refl _) ?_
      cbv
      refine Chk.mk (Nat.le_refl _) ?_
      cbv
      refine Chk.mk (by show (aop .add (ofN i) 1).toNat ≤ l.length; omega) ?_
      cbv
      refine loop_inv [0, 3, 4, 5, 6, 9, 10, 11, 19, 20, 21] (fun (j : Nat) => j ≤ l.length - (i + 1)) (fun j => ⟨[.sl 0 (.l 0) (.l 0) 1 (.t fun _ => l.length) (.t fun _ => l.length) false, .undef, .undef, .int .i64 (.t fun _ => ofN (numTo l i)), .int .i64 (.t fun _ => ofN i), .int .i64 (.t fun _ => l.getD i 0), .int .i64 (.t fun _ => ofN (lessTo l i j)), .undef, .undef, .sl 0 (.l 0) (.l 0) 1 (.t fun _ => l.length) (.t fun _ => l.length) false, .int .i64 (.t fun _ => ofN l.length), .int .i64 (.t fun _ => ofN i), .undef, .undef, .undef, .undef, .undef, .undef, .undef, .sl 0 (.t fun _ => i + 1) (.l 0) 1 (.t fun _ => l.length - (i + 1)) (.t fun _ => l.length - (i + 1)) false, .int .i64 (.t fun _ => ofN (l.length - (i + 1))), .int .i64 (.t fun _ => ofN j), .undef, .undef, .undef, .undef, .undef, .undef, .undef, .undef, .undef, .undef, .undef, .undef, .undef, .undef, .undef, .undef, .undef, .undef, .undef], [some ⟨true, .rows [.int .i64] fun _ => ints l⟩]⟩) (fun j => l.length - j) 0 (Nat.zero_le _) ?_ ?_
      · cbv
        repeat' first | apply And.intro | exact trivial | exact SameI.mk (by with_reducible rfl) | exact SameN.mk (by with_reducible rfl) | exact SameL.mk (by with_reducible rfl) | exact SameB.mk (by with_reducible rfl) | exact LeN.mk (by with_reducible exact Nat.le_refl _) | apply SameI.mk | apply SameN.mk | apply SameL.mk | apply SameB.mk | apply LeN.mk
        all_goals first | rfl | exact (ofN_succ _).symm | (simp only [toNat_ofN, NX.v, IX.v, Nat.le_refl]; done) | ((try simp only [toNat_ofN, NX.v, IX.v, nadd, nsub]); omega) | skip
        all_goals simp only [NX.v, IX.v, nsub, e1]
        all_goals first | exact ea | exact Nat.le_refl _ | skip
      · intro j R' hj hR'
        have j0 := ofN_nonneg j
        cbv
        refine Br.mk (fun hd => ?_) (fun hd => ?_)
        · have hj2 := lt_len hd
          cbv
          refine Chk.mk (idx1 hj2) ?_
          cbv
          refine Chk.mk ?_ ?_
          · show 0 ≤ ofN (nadd (i + 1) (ofN j).toNat) ∧ ofN (nadd (i + 1) (ofN j).toNat) < ofN (ints l).length
            rw [toNat_ofN, ints_length]; simp only [nadd, ofN]; omega
          have eb : at1 (ints l) (nadd (i + 1) (ofN j).toNat) = l.getD (i + 1 + j) 0 := by rw [toNat_ofN, at1_ints]; rfl
          cbv
          refine Br.mk (fun hb => ?_) (fun hb => ?_)
          · have hb : l.getD (i + 1 + j) 0 < l.getD i 0 := by
              have := lt_t.1 hb
              rw [← eb]; exact this
            have hl1 := lessTo_le l i j
            cbv
            refine Chk.mk (inR64 (by rw [aop_add]; simp only [ofN]; omega)) ?_
            cbv
            refine Chk.mk (inR64 (by rw [aop_add]; simp only [ofN]; omega)) ?_
            cbv
            refine .mk (hR' (j + 1) _ hj2 (by omega) ?_)
            cbv
            repeat' first | apply And.intro | exact trivial | exact SameI.mk (by with_reducible rfl) | exact SameN.mk (by with_reducible rfl) | exact SameL.mk (by with_reducible rfl) | exact SameB.mk (by with_reducible rfl) | exact LeN.mk (by with_reducible exact Nat.le_refl _) | apply SameI.mk | apply SameN.mk | apply SameL.mk | apply SameB.mk | apply LeN.mk
            all_goals first | rfl | exact (ofN_succ _).symm | (simp only [toNat_ofN, NX.v, IX.v, Nat.le_refl]; done) | ((try simp only [toNat_ofN, NX.v, IX.v, nadd, nsub]); omega) | skip
            show aop .add (ofN (lessTo l i j)) 1 = ofN (lessTo l i (j + 1))
            simp only [lessTo, hb, if_true, aop_add, ofN]; omega
          · have hb : ¬ l.getD (i + 1 + j) 0 < l.getD i 0 := by
              have := lt_f.1 hb
              rw [← eb]; exact this
            cbv
            refine Chk.mk (inR64 (by rw [aop_add]; simp only [ofN]; omega)) ?_
            cbv
            refine .mk (hR' (j + 1) _ hj2 (by omega) ?_)
            cbv
            repeat' first | apply And.intro | exact trivial | exact SameI.mk (by with_reducible rfl) | exact SameN.mk (by with_reducible rfl) | exact SameL.mk (by with_reducible rfl) | exact SameB.mk (by with_reducible rfl) | exact LeN.mk (by with_reducible exact Nat.le_refl _) | apply SameI.mk | apply SameN.mk | apply SameL.mk | apply SameB.mk | apply LeN.mk
            all_goals first | rfl | exact (ofN_succ _).symm | (simp only [toNat_ofN, NX.v, IX.v, Nat.le_refl]; done) | ((try simp only [toNat_ofN, NX.v, IX.v, nadd, nsub]); omega) | skip
            show ofN (lessTo l i j) = ofN (lessTo l i (j + 1))
            simp only [lessTo, hb, if_false, Nat.add_zero]
        · obtain rfl := ge_len hd hj
          have hl1 := lessTo_le l i (l.length - (i + 1))
          have hb := numTo_lt l (i + 1) hi2
          have hb0 := numTo_lt l i hi
          have hp := fact_pos (l.length - (i + 1))
          have h15 : fact l.length ≤ 1307674368000 := Nat.le_trans (fact_le l.length 15 hl) (by decide)
          have h3 : numTo l (i + 1) < fact l.length := by
            have := Nat.le_mul_of_pos_right (numTo l (i + 1) + 1) hp
            omega
          have h4 : numTo l (i + 1) = numTo l i * (l.length - i) + lessTo l i (l.length - (i + 1)) := rfl
          have h5 : ofN (numTo l i) * (ofN l.length - ofN i) = ofN (numTo l i * (l.length - i)) := by
            simp only [ofN]; rw [Int.natCast_mul]; congr 1; omega
          cbv
          refine .mk ?_
          cbv
          refine Chk.mk (inR64 (by rw [aop_sub]; simp only [ofN]; omega)) ?_
          cbv
          refine Chk.mk (inR64 ?_) ?_
          · show -9223372036854775808 ≤ ofN (numTo l i) * (ofN l.length - ofN i) ∧ ofN (numTo l i) * (ofN l.length - ofN i) ≤ 9223372036854775807
            rw [h5]; simp only [ofN]; omega
          cbv
          refine Chk.mk (inR64 ?_) ?_
          · show -9223372036854775808 ≤ ofN (numTo l i) * (ofN l.length - ofN i) + ofN (lessTo l i (l.length - (i + 1))) ∧ ofN (numTo l i) * (ofN l.length - ofN i) + ofN (lessTo l i (l.length - (i + 1))) ≤ 9223372036854775807
            rw [h5]; simp only [ofN]; omega
          cbv
          refine Chk.mk (inc64 hi2 (by omega)) ?_
          cbv
          refine .mk (hR (i + 1) _ hi2 (by omega) ?_)
          cbv
          repeat' first | apply And.intro | exact trivial | exact SameI.mk (by with_reducible rfl) | exact SameN.mk (by with_reducible rfl) | exact SameL.mk (by with_reducible rfl) | exact SameB.mk (by with_reducible rfl) | exact LeN.mk (by with_reducible exact Nat.le_refl _) | apply SameI.mk | apply SameN.mk | apply SameL.mk | apply SameB.mk | apply LeN.mk
          all_goals first | rfl | exact (ofN_succ _).symm | (simp only [toNat_ofN, NX.v, IX.v, Nat.le_refl]; done) | ((try simp only [toNat_ofN, NX.v, IX.v, nadd, nsub]); omega) | skip
          show ofN (numTo l i) * (ofN l.length - ofN i) + ofN (lessTo l i (l.length - (i + 1))) = ofN (numTo l (i + 1))
          rw [h5, h4]; simp only [ofN]; omega
    · obtain rfl := ge_len hc hi
      cbv
      refine .mk ?_
      cbv
      refine .mk _ _ h2 ?_ ?_
      all_goals cbv
      all_goals repeat' first | apply And.intro | exact trivial | exact SameI.mk (by with_reducible rfl) | exact SameN.mk (by with_reducible rfl) | exact SameL.mk (by with_reducible rfl) | exact SameB.mk (by with_reducible rfl) | exact LeN.mk (by with_reducible exact Nat.le_refl _) | apply SameI.mk | apply SameN.mk | apply SameL.mk | apply SameB.mk | apply LeN.mk
      all_goals first | rfl | exact (ofN_succ _).symm | (simp only [toNat_ofN, NX.v, IX.v, Nat.le_refl]; done) | ((try simp only [toNat_ofN, NX.v, IX.v, nadd, nsub]); omega) | skip
end Go.Proofs.Ytlgmbpnlakjefaa
