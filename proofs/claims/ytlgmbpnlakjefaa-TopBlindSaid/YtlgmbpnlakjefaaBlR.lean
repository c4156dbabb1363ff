/- Plain law: what deals need; a hidden word renewed is hidden under the new key; distances stay. -/
import Derived.Test.YtlgmbpnlakjefaaBlQ
namespace Go.Proofs.Ytlgmbpnlakjefaa
open Go.Sy
set_option maxRecDepth 100000
set_option maxHeartbeats 1000000
set_option linter.unusedSimpArgs false
set_option linter.unusedVariables false
theorem anyGe_false {m : Int} {n : Nat} {f : Nat → Int} : anyGe m n f = false ↔ ∀ j, j < n → f j < m := by
  unfold anyGe
  rw [List.any_eq_false]
  constructor
  · intro h j hj
    have := h j (List.mem_range.2 hj)
    simp only [decide_eq_true_eq] at this; omega
  · intro h j hj
    have := h j (List.mem_range.1 hj)
    simp only [decide_eq_true_eq]; omega
theorem partyB_true {x : PartyX} : partyB x = true ↔ (∀ j, j < 15 → x.m j < 31) ∧ (∀ j, j < 15 → x.s j < 31) ∧ x.sh < 31 ∧ ∀ j, j < 31 → x.t j < 2147483648 := by
  unfold partyB
  simp only [Bool.and_eq_true, Bool.not_eq_true', anyGe_false, decide_eq_false_iff_not, Int.not_le]
  constructor
  · rintro ⟨⟨⟨h1, h2⟩, h3⟩, h4⟩; exact ⟨h1, h2, h3, h4⟩
  · rintro ⟨h1, h2, h3, h4⟩; exact ⟨⟨⟨h1, h2⟩, h3⟩, h4⟩
/-- what is known of a deal that was read -/
def DealX.got (d : DealX) : Prop := d.wf ∧ ∀ i, 0 ≤ d.t i ∧ d.t i < 4294967296
theorem deal_of_valid {d : DealX} (hv : validDealB d = true) : dealB d = true := by
  unfold validDealB at hv
  simp only [Bool.and_eq_true, Bool.not_eq_true', anyGe_false, decide_eq_true_eq] at hv
  obtain ⟨⟨⟨⟨⟨h1, h2⟩, h3⟩, h4⟩, h5⟩, h6⟩ := hv
  unfold dealB
  rw [Bool.and_eq_true, partyB_true, partyB_true]
  exact ⟨⟨h1, h3, h4, h6⟩, h2, fun j _ => by show (0 : Int) < 31; decide, h5, fun j _ => by show (0 : Int) < 2147483648; decide⟩
theorem least_ok {d : DealX} (hg : d.got) (hd : dealB d = true) {x y : Nat} (hx : x < 32768) (hy : y < 32768) : LeastX.ok ⟨d, ofN x, ofN y, popN (x ^^^ y) 15⟩ := by
  have hd2 := hd
  unfold dealB at hd2
  rw [Bool.and_eq_true, partyB_true, partyB_true] at hd2
  obtain ⟨⟨p1, p2, p3, p4⟩, ⟨q1, q2, q3, q4⟩⟩ := hd2
  obtain ⟨⟨w1, w2, w3, w4, w5⟩, wt⟩ := hg
  have p3 : d.rc < 31 := p3
  have q3 : d.rs < 31 := q3
  have p4 : ∀ j, j < 31 → d.t j < 2147483648 := p4
  have hT : ∀ i, d.t i = ofN (d.t i).toNat := fun i => ofN_of (wt i).1
  have hT2 : ∀ i, i < 31 → (d.t i).toNat < 2147483648 := fun i hi => by have := p4 i hi; have := (wt i).1; omega
  refine ⟨⟨w1, w2, w3, w4, w5⟩, hd, ⟨w1, w3, w4⟩, partyB_true.2 ⟨p1, p2, p3, p4⟩, by simp only [ofN]; omega, by simp only [ofN]; omega, popN_le _ _, fun i hi => ⟨⟨w2, fun j => (show byte (d.v j) from opOf_byte _ _ _), w5⟩, partyB_true.2 ⟨q1, fun j _ => (show d.v j < 31 from (opOf_range _ _ _).2), q3, fun j hj => ?_⟩, ?_⟩⟩
  · show rowTo d.rc d.rs (ofN i) (d.t j) j 31 < 2147483648
    rw [hT j, rowTo_eq (hT2 j hj) (Nat.le_refl _)]
    have := rowN_lt (near := nearB d.rc d.rs (ofN i) j) (hT2 j hj) (Nat.le_refl 31)
    exact ofN_lt (n := 2147483648).2 this
  · show tkM d.one (d.snd (ofN i)) (ofN x) (ofN y) = decide (popN (x ^^^ y) 15 ≤ i)
    rw [talk_match (T := fun i => (d.t i).toNat) hT hT2 ⟨w4.1, p3⟩ ⟨w5.1, q3⟩ hx hy]
    simp only [decide_eq_decide]; exact ofN_le
/-! ### orders and their numbers -/
theorem orderL_nodup : ∀ (k : Nat) (left : List Nat) (p : Nat), left.length = k → p < fact k → left.Nodup → (orderL k left p).Nodup
  | 0, _, _, _, _, _ => List.nodup_nil
  | k + 1, left, p, hl, hp, hn => by
    have hfp := fact_pos k
    have hat : p / fact k < k + 1 := (Nat.div_lt_iff_lt_mul hfp).2 (by rw [Nat.mul_comm]; exact hp)
    have hlt : p / fact k < left.length := by omega
    have hel : (left.eraseIdx (p / fact k)).length = k := by rw [List.length_eraseIdx]; simp [hlt]; omega
    simp only [orderL, List.nodup_cons]
    refine ⟨fun hm => ?_, orderL_nodup k _ _ hel (Nat.mod_lt _ hfp) (hn.sublist (List.eraseIdx_sublist _ _))⟩
    have hm := orderL_mem k _ _ hel (Nat.mod_lt _ hfp) _ hm
    rw [List.getD_eq_getElem?_getD, List.getElem?_eq_getElem hlt, Option.getD_some] at hm
    rw [List.mem_eraseIdx_iff_getElem] at hm
    obtain ⟨j, hj, hne, he⟩ := hm
    exact hne ((List.getElem_inj hn).1 he)
/-- the places of an order -/
def sig (k : KeyX) (i : Nat) : Nat := (orderL k.n (List.range k.n) k.perm.toNat).getD i 0
theorem ordI_get {k : KeyX} {i : Nat} (hi : i < k.n) : (ordI k.n k.perm).getD i 0 = ofN (sig k i) := by
  have hl := orderL_length k.n (List.range k.n) k.perm.toNat
  simp [ordI, nats, sig, List.getD_eq_getElem?_getD, hl, hi]
theorem sig_lt {k : KeyX} (hk : k.ok) {i : Nat} (hi : i < k.n) : sig k i < k.n := by
  have h := ordI_range hk.2.2.2.1 hi
  rw [ordI_get hi] at h
  exact ofN_lt.1 h.2
theorem sig_inj {k : KeyX} (hk : k.ok) {i j : Nat} (hi : i < k.n) (hj : j < k.n) (h : sig k i = sig k j) : i = j := by
  have hl := orderL_length k.n (List.range k.n) k.perm.toNat
  have hn := orderL_nodup k.n (List.range k.n) k.perm.toNat (by simp) hk.2.2.2.1 List.nodup_range
  unfold sig at h
  rw [List.getD_eq_getElem?_getD, List.getD_eq_getElem?_getD, List.getElem?_eq_getElem (by omega), List.getElem?_eq_getElem (by omega)] at h
  exact (List.getElem_inj hn).1 h
end Go.Proofs.Ytlgmbpnlakjefaa
