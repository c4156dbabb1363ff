/- Plain law: the number of an order gives the order again. -/
import Derived.Test.YtlgmbpnlakjefaaBlR
namespace Go.Proofs.Ytlgmbpnlakjefaa
open Go.Sy
set_option maxRecDepth 100000
set_option maxHeartbeats 1000000
set_option linter.unusedSimpArgs false
set_option linter.unusedVariables false
def numberL : List Nat → Nat
  | [] => 0
  | a :: l => l.countP (fun b => decide (b < a)) * fact l.length + numberL l
theorem numberL_lt : ∀ l : List Nat, numberL l < fact l.length
  | [] => by decide
  | a :: l => by
    have ih := numberL_lt l
    have hc : l.countP (fun b => decide (b < a)) ≤ l.length := List.countP_le_length
    simp only [numberL, List.length_cons, fact]
    calc _ < l.countP (fun b => decide (b < a)) * fact l.length + fact l.length := by omega
      _ = (l.countP (fun b => decide (b < a)) + 1) * fact l.length := by rw [Nat.add_mul, Nat.one_mul]
      _ ≤ (l.length + 1) * fact l.length := Nat.mul_le_mul_right _ (by omega)
      _ = fact l.length * (l.length + 1) := Nat.mul_comm _ _
theorem sorted_get : ∀ {left : List Nat} {a : Nat}, left.Pairwise (· < ·) → a ∈ left → left.getD (left.countP fun b => decide (b < a)) 0 = a
  | [], a, _, h => by cases h
  | b :: t, a, hs, h => by
    rw [List.pairwise_cons] at hs
    rcases List.mem_cons.1 h with rfl | h
    · have : t.countP (fun b => decide (b < a)) = 0 := List.countP_eq_zero.2 fun x hx => by have := hs.1 x hx; simp; omega
      simp [List.countP_cons, this]
    · have hb : b < a := hs.1 a h
      have ih := sorted_get hs.2 h
      simp only [List.countP_cons, hb, decide_true, if_true]
      simpa using ih
theorem erase_perm : ∀ (l : List Nat) (c : Nat) (h : c < l.length), (l[c] :: l.eraseIdx c).Perm l
  | a :: l, 0, _ => List.Perm.refl _
  | a :: l, c + 1, h => (List.Perm.swap a (l[c]'(by simpa using h)) _).trans (List.Perm.cons a (erase_perm l c (by simpa using h)))
theorem sub_perm : ∀ (L M : List Nat), L.Nodup → (∀ v ∈ L, v ∈ M) → ∃ R, M.Perm (L ++ R)
  | [], M, _, _ => ⟨M, List.Perm.refl _⟩
  | a :: L, M, hn, hm => by
    rw [List.nodup_cons] at hn
    obtain ⟨R, hR⟩ := sub_perm L (M.erase a) hn.2 fun v hv => (List.mem_erase_of_ne (fun (e : v = a) => hn.1 (by rw [← e]; exact hv))).2 (hm v (by simp [hv]))
    exact ⟨R, (List.perm_cons_erase (hm a (by simp))).trans (List.Perm.cons a hR)⟩
theorem order_number : ∀ (l left : List Nat), left.Perm l → left.Pairwise (· < ·) → orderL l.length left (numberL l) = l
  | [], left, _, _ => rfl
  | a :: l, left, hp, hs => by
    have hfp := fact_pos l.length
    have hlt := numberL_lt l
    have hc : left.countP (fun b => decide (b < a)) = l.countP (fun b => decide (b < a)) := by
      rw [hp.countP_eq]; simp [List.countP_cons]
    have ha : a ∈ left := hp.mem_iff.2 (by simp)
    have hg := sorted_get hs ha
    rw [hc] at hg
    have hlen : left.length = l.length + 1 := by rw [hp.length_eq]; rfl
    have hcl : l.countP (fun b => decide (b < a)) < left.length := by
      have : l.countP (fun b => decide (b < a)) ≤ l.length := List.countP_le_length
      omega
    have e1 : numberL (a :: l) / fact l.length = l.countP (fun b => decide (b < a)) := by
      simp only [numberL]
      rw [Nat.mul_comm, Nat.mul_add_div hfp, Nat.div_eq_of_lt hlt, Nat.add_zero]
    have e2 : numberL (a :: l) % fact l.length = numberL l := by
      simp only [numberL]
      rw [Nat.mul_comm, Nat.mul_add_mod, Nat.mod_eq_of_lt hlt]
    simp only [List.length_cons, orderL, e1, e2, hg]
    congr 1
    generalize l.countP (fun b => decide (b < a)) = c at *
    have hge : left[c] = a := by
      rw [List.getD_eq_getElem?_getD, List.getElem?_eq_getElem hcl] at hg; exact hg
    refine order_number l _ ?_ (hs.sublist (List.eraseIdx_sublist _ _))
    have h1 : (left[c] :: left.eraseIdx c).Perm left := erase_perm left c hcl
    rw [hge] at h1
    exact (h1.trans hp).cons_inv
/-! ### the code's number -/
theorem nats_getD {L : List Nat} {i : Nat} (hi : i < L.length) : (nats L).getD i 0 = ofN L[i] := by simp [nats, List.getD_eq_getElem?_getD, hi]
theorem lessTo_eq {L : List Nat} {i : Nat} (hi : i < L.length) : ∀ {j : Nat}, i + 1 + j ≤ L.length → lessTo (nats L) i j = ((L.drop (i + 1)).take j).countP (fun b => decide (b < L[i]))
  | 0, _ => by simp [lessTo]
  | j + 1, h => by
    have ih := lessTo_eq hi (j := j) (by omega)
    have h2 : i + 1 + j < L.length := by omega
    simp only [lessTo]
    rw [ih, nats_getD h2, nats_getD hi, List.take_add_one, List.countP_append]
    have e : (L.drop (i + 1))[j]? = some L[i + 1 + j] := by rw [List.getElem?_drop, List.getElem?_eq_getElem h2]
    rw [e]
    simp only [Option.toList_some, List.countP_cons, List.countP_nil, ofN_lt, Nat.zero_add, decide_eq_true_eq]
theorem numTo_eq (L : List Nat) : ∀ {i : Nat}, i ≤ L.length → numTo (nats L) i * fact (L.length - i) + numberL (L.drop i) = numberL L
  | 0, _ => by simp [numTo]
  | i + 1, h => by
    have ih := numTo_eq L (i := i) (by omega)
    have hi : i < L.length := by omega
    have e : L.length - i = (L.length - (i + 1)) + 1 := by omega
    have e2 := lessTo_eq hi (j := L.length - (i + 1)) (by omega)
    have e3 : (L.drop (i + 1)).take (L.length - (i + 1)) = L.drop (i + 1) := List.take_of_length_le (by rw [List.length_drop]; omega)
    rw [e3] at e2
    rw [← ih, List.drop_eq_getElem_cons hi]
    simp only [numTo, numberL, List.length_drop, nats_length]
    rw [e2, e]
    simp only [fact]
    generalize L.length - (i + 1) = m
    generalize (L.drop (i + 1)).countP (fun b => decide (b < L[i])) = c
    generalize numTo (nats L) i = q
    generalize fact m = f
    rw [Nat.add_mul, Nat.mul_assoc, Nat.mul_comm (m + 1) f]
    omega
theorem numTo_number (L : List Nat) : numTo (nats L) L.length = numberL L := by
  have h := numTo_eq L (Nat.le_refl _)
  simpa [fact, numberL] using h
/-- an order that is a row of the numbers below n has its number -/
theorem order_of_number {L : List Nat} {n : Nat} (hl : L.length = n) (hn : L.Nodup) (hm : ∀ v ∈ L, v < n) : orderL n (List.range n) (numTo (nats L) n) = L := by
  subst hl
  rw [numTo_number]
  refine order_number L _ ?_ List.pairwise_lt_range
  obtain ⟨R, hR⟩ := sub_perm L (List.range L.length) hn fun v hv => List.mem_range.2 (hm v hv)
  have h := hR.length_eq
  simp only [List.length_range, List.length_append] at h
  obtain rfl : R = [] := List.eq_nil_of_length_eq_zero (by omega)
  simpa using hR
end Go.Proofs.Ytlgmbpnlakjefaa
