/- Put together by a program of this work out of its texts BlS, BlT, BlU, Bl18, KpP, KpK. -/
import Derived.Test.YtlgmbpnlakjefaaDoorM14
section
/- Plain law: the number of an order gives the order again. -/
namespace Go.Proofs.YtlgmbpnlakjefaaDoor
open Go.Sy
set_option maxRecDepth 100000
set_option maxHeartbeats 1000000
set_option linter.unusedSimpArgs false
set_option linter.unusedVariables false
def numberL : List Nat → Nat
  | [] => 0
  | a :: l => l.countP (fun b => decide (b < a)) * fact l.length + numberL l
theorem numberL_lt : ∀ l : List Nat, numberL l < fact l.length
  | [] => by decide
  | a :: l => by
    have ih := numberL_lt l
    have hc : l.countP (fun b => decide (b < a)) ≤ l.length := List.countP_le_length
    simp only [numberL, List.length_cons, fact]
    calc _ < l.countP (fun b => decide (b < a)) * fact l.length + fact l.length := by omega
      _ = (l.countP (fun b => decide (b < a)) + 1) * fact l.length := by rw [Nat.add_mul, Nat.one_mul]
      _ ≤ (l.length + 1) * fact l.length := Nat.mul_le_mul_right _ (by omega)
      _ = fact l.length * (l.length + 1) := Nat.mul_comm _ _
theorem sorted_get : ∀ {left : List Nat} {a : Nat}, left.Pairwise (· < ·) → a ∈ left → left.getD (left.countP fun b => decide (b < a)) 0 = a
  | [], a, _, h => by cases h
  | b :: t, a, hs, h => by
    rw [List.pairwise_cons] at hs
    rcases List.mem_cons.1 h with rfl | h
    · have : t.countP (fun b => decide (b < a)) = 0 := List.countP_eq_zero.2 fun x hx => by have := hs.1 x hx; simp; omega
      simp [List.countP_cons, this]
    · have hb : b < a := hs.1 a h
      have ih := sorted_get hs.2 h
      simp only [List.countP_cons, hb, decide_true, if_true]
      simpa using ih
theorem erase_perm : ∀ (l : List Nat) (c : Nat) (h : c < l.length), (l[c] :: l.eraseIdx c).Perm l
  | a :: l, 0, _ => List.Perm.refl _
  | a :: l, c + 1, h => (List.Perm.swap a (l[c]'(by simpa using h)) _).trans (List.Perm.cons a (erase_perm l c (by simpa using h)))
theorem sub_perm : ∀ (L M : List Nat), L.Nodup → (∀ v ∈ L, v ∈ M) → ∃ R, M.Perm (L ++ R)
  | [], M, _, _ => ⟨M, List.Perm.refl _⟩
  | a :: L, M, hn, hm => by
    rw [List.nodup_cons] at hn
    obtain ⟨R, hR⟩ := sub_perm L (M.erase a) hn.2 fun v hv => (List.mem_erase_of_ne (fun (e : v = a) => hn.1 (by rw [← e]; exact hv))).2 (hm v (by simp [hv]))
    exact ⟨R, (List.perm_cons_erase (hm a (by simp))).trans (List.Perm.cons a hR)⟩
theorem order_number : ∀ (l left : List Nat), left.Perm l → left.Pairwise (· < ·) → orderL l.length left (numberL l) = l
  | [], left, _, _ => rfl
  | a :: l, left, hp, hs => by
    have hfp := fact_pos l.length
    have hlt := numberL_lt l
    have hc : left.countP (fun b => decide (b < a)) = l.countP (fun b => decide (b < a)) := by
      rw [hp.countP_eq]; simp [List.countP_cons]
    have ha : a ∈ left := hp.mem_iff.2 (by simp)
    have hg := sorted_get hs ha
    rw [hc] at hg
    have hlen : left.length = l.length + 1 := by rw [hp.length_eq]; rfl
    have hcl : l.countP (fun b => decide (b < a)) < left.length := by
      have : l.countP (fun b => decide (b < a)) ≤ l.length := List.countP_le_length
      omega
    have e1 : numberL (a :: l) / fact l.length = l.countP (fun b => decide (b < a)) := by
      simp only [numberL]
      rw [Nat.mul_comm, Nat.mul_add_div hfp, Nat.div_eq_of_lt hlt, Nat.add_zero]
    have e2 : numberL (a :: l) % fact l.length = numberL l := by
      simp only [numberL]
      rw [Nat.mul_comm, Nat.mul_add_mod, Nat.mod_eq_of_lt hlt]
    simp only [List.length_cons, orderL, e1, e2, hg]
    congr 1
    generalize l.countP (fun b => decide (b < a)) = c at *
    have hge : left[c] = a := by
      rw [List.getD_eq_getElem?_getD, List.getElem?_eq_getElem hcl] at hg; exact hg
    refine order_number l _ ?_ (hs.sublist (List.eraseIdx_sublist _ _))
    have h1 : (left[c] :: left.eraseIdx c).Perm left := erase_perm left c hcl
    rw [hge] at h1
    exact (h1.trans hp).cons_inv
/-! ### the code's number -/
theorem nats_getD {L : List Nat} {i : Nat} (hi : i < L.length) : (nats L).getD i 0 = ofN L[i] := by simp [nats, List.getD_eq_getElem?_getD, hi]
theorem lessTo_eq {L : List Nat} {i : Nat} (hi : i < L.length) : ∀ {j : Nat}, i + 1 + j ≤ L.length → lessTo (nats L) i j = ((L.drop (i + 1)).take j).countP (fun b => decide (b < L[i]))
  | 0, _ => by simp [lessTo]
  | j + 1, h => by
    have ih := lessTo_eq hi (j := j) (by omega)
    have h2 : i + 1 + j < L.length := by omega
    simp only [lessTo]
    rw [ih, nats_getD h2, nats_getD hi, List.take_add_one, List.countP_append]
    have e : (L.drop (i + 1))[j]? = some L[i + 1 + j] := by rw [List.getElem?_drop, List.getElem?_eq_getElem h2]
    rw [e]
    simp only [Option.toList_some, List.countP_cons, List.countP_nil, ofN_lt, Nat.zero_add, decide_eq_true_eq]
theorem numTo_eq (L : List Nat) : ∀ {i : Nat}, i ≤ L.length → numTo (nats L) i * fact (L.length - i) + numberL (L.drop i) = numberL L
  | 0, _ => by simp [numTo]
  | i + 1, h => by
    have ih := numTo_eq L (i := i) (by omega)
    have hi : i < L.length := by omega
    have e : L.length - i = (L.length - (i + 1)) + 1 := by omega
    have e2 := lessTo_eq hi (j := L.length - (i + 1)) (by omega)
    have e3 : (L.drop (i + 1)).take (L.length - (i + 1)) = L.drop (i + 1) := List.take_of_length_le (by rw [List.length_drop]; omega)
    rw [e3] at e2
    rw [← ih, List.drop_eq_getElem_cons hi]
    simp only [numTo, numberL, List.length_drop, nats_length]
    rw [e2, e]
    simp only [fact]
    generalize L.length - (i + 1) = m
    generalize (L.drop (i + 1)).countP (fun b => decide (b < L[i])) = c
    generalize numTo (nats L) i = q
    generalize fact m = f
    rw [Nat.add_mul, Nat.mul_assoc, Nat.mul_comm (m + 1) f]
    omega
theorem numTo_number (L : List Nat) : numTo (nats L) L.length = numberL L := by
  have h := numTo_eq L (Nat.le_refl _)
  simpa [fact, numberL] using h
/-- an order that is a row of the numbers below n has its number -/
theorem order_of_number {L : List Nat} {n : Nat} (hl : L.length = n) (hn : L.Nodup) (hm : ∀ v ∈ L, v < n) : orderL n (List.range n) (numTo (nats L) n) = L := by
  subst hl
  rw [numTo_number]
  refine order_number L _ ?_ List.pairwise_lt_range
  obtain ⟨R, hR⟩ := sub_perm L (List.range L.length) hn fun v hv => List.mem_range.2 (hm v hv)
  have h := hR.length_eq
  simp only [List.length_range, List.length_append] at h
  obtain rfl : R = [] := List.eq_nil_of_length_eq_zero (by omega)
  simpa using hR
end Go.Proofs.YtlgmbpnlakjefaaDoor
end

section
/- Plain law: what is hidden under an old key, renewed, is what the new key hides; distances stay as they are. -/
namespace Go.Proofs.YtlgmbpnlakjefaaDoor
open Go.Sy
set_option maxRecDepth 100000
set_option maxHeartbeats 1000000
set_option linter.unusedSimpArgs false
set_option linter.unusedVariables false
theorem pow16 {n : Nat} (h : n ≤ 15) : 2 ^ n ≤ 32768 := (pow_le15 h).2
def hideN (k : KeyX) (w : Nat) : Nat := wN (fun i => w.testBit (sig k i)) k.n ^^^ k.pad.toNat
theorem pad_lt {k : KeyX} (hk : k.ok) : k.pad.toNat < 2 ^ k.n := by
  have h := hk.2.2.2.2.2
  rw [ofN_of hk.2.2.2.2.1] at h
  exact ofN_lt.1 h
theorem hideI_eq {k : KeyX} (hk : k.ok) {w : Nat} (hw : w < 65536) : hideI k (ofN w) = ofN (hideN k w) := by
  have h1 := hk.2.1
  have hp := pow16 h1
  have hpl := pad_lt hk
  have e := picked (n := k.n) (w := w) (o := ordI k.n k.perm) (s := sig k) (by omega) hw (ordI_length _ _) (fun i hi => ordI_get hi) (fun i hi => sig_lt hk hi)
  unfold hideI
  rw [e, ofN_of hk.2.2.2.2.1]
  have hl := wN_lt (fun i => w.testBit (sig k i)) k.n
  rw [xor16 (by omega) (by omega)]
  rfl
theorem hideN_lt {k : KeyX} (hk : k.ok) (w : Nat) : hideN k w < 2 ^ k.n := Nat.xor_lt_two_pow (wN_lt _ _) (pad_lt hk)
theorem hideN_bit {k : KeyX} (w : Nat) {i : Nat} (hi : i < k.n) : (hideN k w).testBit i = (w.testBit (sig k i) ^^ k.pad.toNat.testBit i) := by
  unfold hideN
  rw [Nat.testBit_xor, wN_bit]
  simp [hi]
theorem sigs_perm {k : KeyX} (hk : k.ok) : (List.range k.n).Perm ((List.range k.n).map (sig k)) := by
  have hn : ((List.range k.n).map (sig k)).Nodup := by
    rw [List.nodup_iff_pairwise_ne, List.pairwise_map]
    refine List.Pairwise.imp_of_mem ?_ (List.nodup_iff_pairwise_ne.1 (List.nodup_range (n := k.n)))
    intro a b ha hb hab h
    exact hab (sig_inj hk (List.mem_range.1 ha) (List.mem_range.1 hb) h)
  obtain ⟨R, hR⟩ := sub_perm _ (List.range k.n) hn fun v hv => by
    obtain ⟨i, hi, rfl⟩ := List.mem_map.1 hv
    exact List.mem_range.2 (sig_lt hk (List.mem_range.1 hi))
  have h := hR.length_eq
  simp only [List.length_range, List.length_append, List.length_map] at h
  obtain rfl : R = [] := List.eq_nil_of_length_eq_zero (by omega)
  simpa using hR
theorem sig_surj {k : KeyX} (hk : k.ok) {j : Nat} (hj : j < k.n) : ∃ i, i < k.n ∧ sig k i = j := by
  have h := (sigs_perm hk).mem_iff.1 (List.mem_range.2 hj)
  obtain ⟨i, hi, e⟩ := List.mem_map.1 h
  exact ⟨i, List.mem_range.1 hi, e⟩
theorem getD_set_ne {l : List Int} {i j : Nat} (x : Int) (h : i ≠ j) : (l.set i x).getD j 0 = l.getD j 0 := by
  simp [List.getD_eq_getElem?_getD, List.getElem?_set, h]
theorem getD_set_eq {l : List Int} {i : Nat} (x : Int) (h : i < l.length) : (l.set i x).getD i 0 = x := by
  simp [List.getD_eq_getElem?_getD, h]
theorem invTo_get {k : KeyX} (hk : k.ok) : ∀ {m : Nat}, m ≤ k.n → ∀ i, i < m → (invTo (ordI k.n k.perm) m).getD (sig k i) 0 = ofN i
  | 0, _, i, hi => by omega
  | m + 1, hm, i, hi => by
    have hl := invTo_length (ordI k.n k.perm) m
    rw [ordI_length] at hl
    have hs := sig_lt hk (i := m) (by omega)
    simp only [invTo]
    rw [ordI_get (by omega), toNat_ofN]
    by_cases e : i = m
    · subst e; exact getD_set_eq _ (by omega)
    · rw [getD_set_ne _ (fun h => e (sig_inj hk (by omega) (by omega) h).symm)]
      exact invTo_get hk (by omega) i (by omega)
/-- the places of the order that undoes an order -/
def tau (k : KeyX) (j : Nat) : Nat := at0 (invL k) j
theorem tau_sig {k : KeyX} (hk : k.ok) {i : Nat} (hi : i < k.n) : tau k (sig k i) = i := by
  unfold tau at0 invL
  rw [invTo_get hk (Nat.le_refl _) i hi, toNat_ofN]
theorem tau_lt {k : KeyX} (hk : k.ok) {j : Nat} (hj : j < k.n) : tau k j < k.n := by
  obtain ⟨i, hi, rfl⟩ := sig_surj hk hj
  rw [tau_sig hk hi]; exact hi
theorem sig_tau {k : KeyX} (hk : k.ok) {j : Nat} (hj : j < k.n) : sig k (tau k j) = j := by
  obtain ⟨i, hi, rfl⟩ := sig_surj hk hj
  rw [tau_sig hk hi]
theorem tau_inj {k : KeyX} (hk : k.ok) {i j : Nat} (hi : i < k.n) (hj : j < k.n) (h : tau k i = tau k j) : i = j := by
  rw [← sig_tau hk hi, ← sig_tau hk hj, h]
theorem list_nats {l : List Int} {n : Nat} {f : Nat → Nat} (hl : l.length = n) (h : ∀ i, i < n → l.getD i 0 = ofN (f i)) : l = nats ((List.range n).map f) := by
  apply List.ext_getElem?
  intro i
  by_cases hi : i < n
  · have := h i hi
    rw [List.getD_eq_getElem?_getD, List.getElem?_eq_getElem (by omega)] at this
    rw [List.getElem?_eq_getElem (by omega)]
    simp only [Option.getD_some] at this
    simp [nats, hi, this]
  · simp [nats, hi]; omega
theorem number_sig {k : KeyX} {f : Nat → Nat} {l : List Int} (hl : l.length = k.n) (h : ∀ i, i < k.n → l.getD i 0 = ofN (f i)) (hp : k.perm = ofN (numTo l k.n)) (hf : ∀ i, i < k.n → f i < k.n)
    (hi : ∀ i j, i < k.n → j < k.n → f i = f j → i = j) {i : Nat} (hin : i < k.n) : sig k i = f i := by
  have e := list_nats hl h
  have hn : ((List.range k.n).map f).Nodup := by
    rw [List.nodup_iff_pairwise_ne, List.pairwise_map]
    refine List.Pairwise.imp_of_mem ?_ (List.nodup_iff_pairwise_ne.1 (List.nodup_range (n := k.n)))
    intro a b ha hb hab h
    exact hab (hi a b (List.mem_range.1 ha) (List.mem_range.1 hb) h)
  unfold sig
  rw [hp, toNat_ofN, e, order_of_number (by simp) hn fun v hv => by
    obtain ⟨i, hi, rfl⟩ := List.mem_map.1 hv
    exact hf i (List.mem_range.1 hi)]
  simp [List.getD_eq_getElem?_getD, hin]
theorem invI_pad {k : KeyX} (hk : k.ok) : (invI k).pad = ofN (wN (fun i => k.pad.toNat.testBit (tau k i)) k.n) := by
  have h1 := hk.2.1
  have hp := pow16 h1
  have hpl := pad_lt hk
  show wordTo (pickL (bitsL k.n k.pad) (invL k)) k.n = _
  have := picked (n := k.n) (w := k.pad.toNat) (o := invL k) (s := tau k) (by omega) (by omega) (invL_length k) (fun i hi => at0_of (invL_range hk.1 hi).1) (fun i hi => tau_lt hk hi)
  rw [← ofN_of hk.2.2.2.2.1] at this
  exact this
theorem invI_sig {k : KeyX} (hk : k.ok) {i : Nat} (hi : i < k.n) : sig (invI k) i = tau k i :=
  number_sig (k := invI k) (f := tau k) (l := invL k) (invL_length k) (fun i hi => at0_of (invL_range hk.1 hi).1) rfl (fun i hi => tau_lt hk hi) (fun i j hi hj h => tau_inj hk hi hj h) hi
def renI (a b : KeyX) : KeyX := ⟨a.n, renPerm a b, renPad a b⟩
theorem ren_list {a b : KeyX} (ha : a.ok) (hb : b.ok) (hn : a.n = b.n) {i : Nat} (hi : i < a.n) :
    (pickL (ordI a.n (ofN (numTo (invL a) a.n))) (ordI a.n b.perm)).getD i 0 = ofN (tau a (sig b i)) := by
  have hsb : sig b i < a.n := by rw [hn]; exact sig_lt hb (by omega)
  have e1 : (ordI a.n b.perm).getD i 0 = ofN (sig b i) := by rw [hn]; exact ordI_get (k := b) (by omega)
  have e2 : (ordI a.n (ofN (numTo (invL a) a.n))).getD (sig b i) 0 = ofN (sig (invI a) (sig b i)) := ordI_get (k := invI a) hsb
  rw [pickL_get (by rw [ordI_length]; exact hi), e1, toNat_ofN, e2, invI_sig ha hsb]
theorem ren_len {a b : KeyX} : (pickL (ordI a.n (ofN (numTo (invL a) a.n))) (ordI a.n b.perm)).length = a.n := by rw [pickL_length, ordI_length]
theorem ren_sig {a b : KeyX} (ha : a.ok) (hb : b.ok) (hn : a.n = b.n) {i : Nat} (hi : i < a.n) : sig (renI a b) i = tau a (sig b i) :=
  number_sig (k := renI a b) (f := fun i => tau a (sig b i)) (l := pickL (ordI a.n (ofN (numTo (invL a) a.n))) (ordI a.n b.perm)) ren_len (fun i hi => ren_list ha hb hn hi) rfl (fun i hi => tau_lt ha (by rw [hn]; exact sig_lt hb (hn ▸ hi)))
    (fun i j hi hj h => sig_inj hb (hn ▸ hi) (hn ▸ hj) (tau_inj ha (by rw [hn]; exact sig_lt hb (hn ▸ hi)) (by rw [hn]; exact sig_lt hb (hn ▸ hj)) h)) hi
def padQ (a : KeyX) : Nat := wN (fun i => a.pad.toNat.testBit (tau a i)) a.n
theorem ren_pad {a b : KeyX} (ha : a.ok) (hb : b.ok) : renPad a b = ofN (hideN b (padQ a)) := by
  have h1 := ha.2.1
  have hp := pow16 h1
  have hl := wN_lt (fun i => a.pad.toNat.testBit (tau a i)) a.n
  show hideI b (invI a).pad = _
  rw [invI_pad ha, hideI_eq hb (by omega)]
  rfl
theorem ren_ok {a b : KeyX} (ha : a.ok) (hb : b.ok) (hn : a.n = b.n) : (renI a b).ok := by
  refine ⟨ha.1, ha.2.1, ofN_nonneg _, ?_, ?_⟩
  · show (renPerm a b).toNat < fact a.n
    unfold renPerm
    rw [toNat_ofN]
    have h := numTo_lt (pickL (ordI a.n (ofN (numTo (invL a) a.n))) (ordI a.n b.perm)) a.n (by rw [ren_len]; exact Nat.le_refl _)
    rw [ren_len, Nat.sub_self] at h
    simp only [fact, Nat.mul_one] at h
    exact h
  · show 0 ≤ renPad a b ∧ renPad a b < ofN (2 ^ a.n)
    rw [ren_pad ha hb, hn]
    exact ⟨ofN_nonneg _, ofN_lt.2 (hideN_lt hb _)⟩
/-- what is hidden under an old key, turned by the renewing key, is what the new key hides -/
theorem renewed {a b : KeyX} (ha : a.ok) (hb : b.ok) (hn : a.n = b.n) (x : Nat) : hideN (renI a b) (hideN a x) = hideN b x := by
  apply Nat.eq_of_testBit_eq
  intro i
  have hr := ren_ok ha hb hn
  by_cases hi : i < a.n
  · have hib : i < b.n := by omega
    have hsb : sig b i < a.n := by rw [hn]; exact sig_lt hb hib
    have hpd : (renI a b).pad.toNat.testBit i = (a.pad.toNat.testBit (tau a (sig b i)) ^^ b.pad.toNat.testBit i) := by
      show (renPad a b).toNat.testBit i = _
      rw [ren_pad ha hb, toNat_ofN, hideN_bit _ hib]
      unfold padQ
      rw [wN_bit]
      simp [hsb]
    rw [hideN_bit (k := renI a b) _ hi, ren_sig ha hb hn hi, hideN_bit (k := a) _ (tau_lt ha hsb), sig_tau ha hsb, hideN_bit _ hib, hpd]
    cases x.testBit (sig b i) <;> cases a.pad.toNat.testBit (tau a (sig b i)) <;> cases b.pad.toNat.testBit i <;> rfl
  · have h1 := hideN_lt hr (hideN a x)
    have h2 := hideN_lt hb x
    rw [Nat.testBit_lt_two_pow (Nat.lt_of_lt_of_le h1 (Nat.pow_le_pow_right (by decide) (show (renI a b).n ≤ i from by show a.n ≤ i; omega))), Nat.testBit_lt_two_pow (Nat.lt_of_lt_of_le h2 (Nat.pow_le_pow_right (by decide) (by omega)))]
theorem popN_sum (x : Nat) : ∀ n, popN x n = ((List.range n).map fun i => (x.testBit i).toNat).sum
  | 0 => rfl
  | n + 1 => by simp [popN, popN_sum x n, List.range_succ]
/-- hidden words are as far from each other as bare ones -/
theorem far_same {k : KeyX} (hk : k.ok) (x y : Nat) : popN (hideN k x ^^^ hideN k y) k.n = popN (x ^^^ y) k.n := by
  rw [popN_sum, popN_sum]
  have e : (List.range k.n).map (fun i => ((hideN k x ^^^ hideN k y).testBit i).toNat) = ((List.range k.n).map (sig k)).map (fun i => ((x ^^^ y).testBit i).toNat) := by
    rw [List.map_map]
    refine List.map_congr_left fun i hi => ?_
    have hi := List.mem_range.1 hi
    simp only [Function.comp, Nat.testBit_xor, hideN_bit _ hi]
    cases x.testBit (sig k i) <;> cases y.testBit (sig k i) <;> cases k.pad.toNat.testBit i <;> rfl
  rw [e]
  exact (((sigs_perm hk).map _).sum_nat).symm
end Go.Proofs.YtlgmbpnlakjefaaDoor
end

section
/- Plain law: the number of ones of a word of 64 bits, as the library reckons it. -/
namespace Go.Proofs.YtlgmbpnlakjefaaDoor
open Go.Sy
set_option maxRecDepth 100000
set_option maxHeartbeats 1000000
set_option linter.unusedSimpArgs false
set_option linter.unusedVariables false
theorem popN_split (x m : Nat) : ∀ n, popN x (m + n) = popN x m + popN (x / 2 ^ m) n
  | 0 => by simp [popN]
  | n + 1 => by
    rw [show m + (n + 1) = (m + n) + 1 by omega]
    simp only [popN, popN_split x m n, Nat.testBit_div_two_pow]
    rw [Nat.add_comm n m]; omega
theorem popN_mod (x m : Nat) : ∀ n, n ≤ m → popN (x % 2 ^ m) n = popN x n
  | 0, _ => rfl
  | n + 1, h => by
    simp only [popN, popN_mod x m n (by omega), Nat.testBit_mod_two_pow]
    simp [show n < m by omega]
def rep (c : Nat) : Nat → Nat
  | 0 => 0
  | n + 1 => rep c n * 256 + c
theorem and_rep {h l M c : Nat} (hl : l < 256) (hc : c < 256) : (h * 256 + l) &&& (M * 256 + c) = (h &&& M) * 256 + (l &&& c) := by
  apply Nat.eq_of_testBit_eq
  intro i
  have hlc : l &&& c < 2 ^ 8 := Nat.lt_of_le_of_lt Nat.and_le_left hl
  rw [Nat.testBit_and, Nat.mul_comm h, Nat.mul_comm M, Nat.mul_comm (h &&& M), show 256 = 2 ^ 8 from rfl, Nat.testBit_two_pow_mul_add h (i := 8) hl, Nat.testBit_two_pow_mul_add M (i := 8) hc, Nat.testBit_two_pow_mul_add (h &&& M) hlc]
  split <;> simp [Nat.testBit_and]
def t1 (n x : Nat) : Nat := ((x / 2) &&& rep 85 n) + (x &&& rep 85 n)
def t2 (n x : Nat) : Nat := ((x / 4) &&& rep 51 n) + (x &&& rep 51 n)
def b1 (l : Nat) : Nat := ((l / 2) &&& 85) + (l &&& 85)
def b2 (l : Nat) : Nat := ((l / 4) &&& 51) + (l &&& 51)
theorem d1 : ∀ r < 2, ∀ q < 128, (r * 128 + q) &&& 85 = q &&& 85 := by decide
theorem d2 : ∀ r < 4, ∀ q < 64, (r * 64 + q) &&& 51 = q &&& 51 := by decide
theorem d3 : ∀ l < 256, b1 l < 256 ∧ b2 (b1 l) < 256 ∧ b2 (b1 l) / 16 ≤ 4 ∧ b2 (b1 l) % 16 ≤ 4 ∧ b2 (b1 l) / 16 + b2 (b1 l) % 16 = popN l 8 := by decide
theorem d4 : ∀ y < 256, y &&& 15 = y % 16 := by decide
theorem t1_step {n h l : Nat} (hl : l < 256) : t1 (n + 1) (h * 256 + l) = t1 n h * 256 + b1 l := by
  unfold t1 b1
  simp only [rep]
  rw [and_rep hl (by decide), show (h * 256 + l) / 2 = (h / 2) * 256 + ((h % 2) * 128 + l / 2) by omega, and_rep (by omega) (by decide), d1 (h % 2) (by omega) (l / 2) (by omega)]
  omega
theorem t2_step {n h l : Nat} (hl : l < 256) : t2 (n + 1) (h * 256 + l) = t2 n h * 256 + b2 l := by
  unfold t2 b2
  simp only [rep]
  rw [and_rep hl (by decide), show (h * 256 + l) / 4 = (h / 4) * 256 + ((h % 4) * 64 + l / 4) by omega, and_rep (by omega) (by decide), d2 (h % 4) (by omega) (l / 4) (by omega)]
  omega
theorem B_step {n h l : Nat} (hl : l < 256) : t2 (n + 1) (t1 (n + 1) (h * 256 + l)) = t2 n (t1 n h) * 256 + b2 (b1 l) := by
  rw [t1_step hl, t2_step (d3 l hl).1]
theorem B_low (n h : Nat) : t2 n (t1 n h) % 16 ≤ 4 := by
  cases n with
  | zero => simp [t2, rep]
  | succ n =>
    have hl : h % 256 < 256 := Nat.mod_lt _ (by decide)
    have e : h = h / 256 * 256 + h % 256 := by omega
    rw [e, B_step hl]
    have := (d3 (h % 256) hl).2.2.2.1
    omega
def t3 (n x : Nat) : Nat := (x / 16 + x) &&& rep 15 n
theorem t3_step {n h l : Nat} (hl : l < 256) (h1 : l / 16 ≤ 4) (h2 : l % 16 ≤ 4) (h3 : h % 16 ≤ 4) : t3 (n + 1) (h * 256 + l) = t3 n h * 256 + (l / 16 + l % 16) := by
  unfold t3
  simp only [rep]
  rw [show (h * 256 + l) / 16 + (h * 256 + l) = (h / 16 + h) * 256 + ((h % 16) * 16 + l / 16 + l) by omega, and_rep (by omega) (by decide), d4 _ (by omega)]
  omega
def pack : Nat → Nat → Nat
  | 0, _ => 0
  | n + 1, x => pack n (x / 256) * 256 + popN (x % 256) 8
theorem chain : ∀ (n x : Nat), t3 n (t2 n (t1 n x)) = pack n x
  | 0, x => by simp [t3, rep, pack]
  | n + 1, x => by
    have hl : x % 256 < 256 := Nat.mod_lt _ (by decide)
    obtain ⟨e1, e2, e3, e4, e5⟩ := d3 (x % 256) hl
    have e : x = x / 256 * 256 + x % 256 := by omega
    have h1 : t2 (n + 1) (t1 (n + 1) x) = t2 n (t1 n (x / 256)) * 256 + b2 (b1 (x % 256)) := by
      have := B_step (n := n) (h := x / 256) hl
      rwa [← e] at this
    rw [h1, t3_step e2 e3 e4 (B_low _ _), chain n (x / 256), e5]
    rfl
def psum : Nat → Nat → Nat
  | 0, _ => 0
  | n + 1, x => psum n (x / 256) + popN (x % 256) 8
theorem psum_pop : ∀ (n x : Nat), psum n x = popN x (8 * n)
  | 0, _ => rfl
  | n + 1, x => by
    simp only [psum]
    rw [psum_pop n, show 8 * (n + 1) = 8 + 8 * n by omega, popN_split, show (256 : Nat) = 2 ^ 8 from rfl, popN_mod _ _ _ (Nat.le_refl 8)]
    omega
theorem low_div (A k p : Nat) (h : p < k) : (A * k + p) / k = A := by
  rw [Nat.mul_comm, Nat.mul_add_div (by omega), Nat.div_eq_of_lt h, Nat.add_zero]
theorem fl1 (p0 p1 p2 p3 p4 p5 p6 p7 : Nat) : ((((((p7 * 256 + p6) * 256 + p5) * 256 + p4) * 256 + p3) * 256 + p2) * 256 + p1) * 256 + p0 = p0 + 256 * p1 + 65536 * p2 + 16777216 * p3 + 4294967296 * p4 + 1099511627776 * p5 + 281474976710656 * p6 + 72057594037927936 * p7 := by
  omega
theorem st1 (p0 p1 p2 p3 p4 p5 p6 p7 P : Nat) (h0 : p0 ≤ 8) (hP : P = p0 + 256 * p1 + 65536 * p2 + 16777216 * p3 + 4294967296 * p4 + 1099511627776 * p5 + 281474976710656 * p6 + 72057594037927936 * p7) :
    P / 256 = p1 + 256 * p2 + 65536 * p3 + 16777216 * p4 + 4294967296 * p5 + 1099511627776 * p6 + 281474976710656 * p7 := by
  have e : P = (p1 + 256 * p2 + 65536 * p3 + 16777216 * p4 + 4294967296 * p5 + 1099511627776 * p6 + 281474976710656 * p7) * 256 + p0 := by
    rw [hP]; omega
  rw [e]; exact low_div _ 256 p0 (by omega)
theorem st2 (q0 q1 q2 q3 q4 q5 q6 q7 Q : Nat) (h0 : q0 ≤ 16) (h1 : q1 ≤ 16) (hQ : Q = q0 + 256 * q1 + 65536 * q2 + 16777216 * q3 + 4294967296 * q4 + 1099511627776 * q5 + 281474976710656 * q6 + 72057594037927936 * q7) :
    Q / 65536 = q2 + 256 * q3 + 65536 * q4 + 16777216 * q5 + 4294967296 * q6 + 1099511627776 * q7 := by
  have e : Q = (q2 + 256 * q3 + 65536 * q4 + 16777216 * q5 + 4294967296 * q6 + 1099511627776 * q7) * 65536 + (q0 + 256 * q1) := by
    rw [hQ]; omega
  rw [e]; exact low_div _ 65536 _ (by omega)
theorem st3 (r0 r1 r2 r3 r4 r5 r6 r7 R : Nat) (h0 : r0 ≤ 32) (h1 : r1 ≤ 32) (h2 : r2 ≤ 32) (h3 : r3 ≤ 32) (hR : R = r0 + 256 * r1 + 65536 * r2 + 16777216 * r3 + 4294967296 * r4 + 1099511627776 * r5 + 281474976710656 * r6 + 72057594037927936 * r7) :
    R / 4294967296 = r4 + 256 * r5 + 65536 * r6 + 16777216 * r7 := by
  have e : R = (r4 + 256 * r5 + 65536 * r6 + 16777216 * r7) * 4294967296 + (r0 + 256 * r1 + 65536 * r2 + 16777216 * r3) := by
    rw [hR]; omega
  rw [e]; exact low_div _ 4294967296 _ (by omega)
theorem fold8 (p0 p1 p2 p3 p4 p5 p6 p7 : Nat) (h : p0 ≤ 8 ∧ p1 ≤ 8 ∧ p2 ≤ 8 ∧ p3 ≤ 8 ∧ p4 ≤ 8 ∧ p5 ≤ 8 ∧ p6 ≤ 8 ∧ p7 ≤ 8) (P Q R S : Nat)
    (hP : P = ((((((p7 * 256 + p6) * 256 + p5) * 256 + p4) * 256 + p3) * 256 + p2) * 256 + p1) * 256 + p0) (hQ : Q = P + P / 256) (hR : R = Q + Q / 65536) (hS : S = R + R / 4294967296) :
    S % 128 = p0 + p1 + p2 + p3 + p4 + p5 + p6 + p7 ∧ P < 600000000000000000 ∧ Q < 700000000000000000 ∧ R < 800000000000000000 ∧ S < 900000000000000000 := by
  obtain ⟨h0, h1, h2, h3, h4, h5, h6, h7⟩ := h
  rw [fl1] at hP
  have d1 := st1 p0 p1 p2 p3 p4 p5 p6 p7 P h0 hP
  have hP2 : P < 600000000000000000 := by omega
  rw [d1, hP] at hQ
  clear d1 hP
  have hQ2 : Q = (p0 + p1) + 256 * (p1 + p2) + 65536 * (p2 + p3) + 16777216 * (p3 + p4) + 4294967296 * (p4 + p5) + 1099511627776 * (p5 + p6) + 281474976710656 * (p6 + p7) + 72057594037927936 * p7 := by rw [hQ]; omega
  clear hQ
  have d2 := st2 (p0 + p1) (p1 + p2) (p2 + p3) (p3 + p4) (p4 + p5) (p5 + p6) (p6 + p7) p7 Q (by omega) (by omega) hQ2
  have hQ3 : Q < 700000000000000000 := by omega
  rw [d2, hQ2] at hR
  clear d2 hQ2
  have hR2 : R = (p0 + p1 + (p2 + p3)) + 256 * (p1 + p2 + (p3 + p4)) + 65536 * (p2 + p3 + (p4 + p5)) + 16777216 * (p3 + p4 + (p5 + p6)) + 4294967296 * (p4 + p5 + (p6 + p7)) + 1099511627776 * (p5 + p6 + p7) + 281474976710656 * (p6 + p7) + 72057594037927936 * p7 := by rw [hR]; omega
  clear hR
  have d3 := st3 _ _ _ _ _ _ _ _ R (by omega) (by omega) (by omega) (by omega) hR2
  have hR3 : R < 800000000000000000 := by omega
  rw [d3, hR2] at hS
  clear d3 hR2
  have hS2 : S = (p0 + p1 + p2 + p3 + p4 + p5 + p6 + p7) + 128 * (2 * (p1 + p2 + p3 + p4 + p5 + p6 + p7) + 512 * (p2 + p3 + p4 + p5 + p6 + p7) + 131072 * (p3 + p4 + p5 + p6 + p7) + 33554432 * (p4 + p5 + p6 + p7) + 8589934592 * (p5 + p6 + p7) + 2199023255552 * (p6 + p7) + 562949953421312 * p7) := by rw [hS]; omega
  clear hS
  have hS3 : S < 900000000000000000 := by omega
  refine ⟨?_, hP2, hQ3, hR3, hS3⟩
  rw [hS2, Nat.add_mul_mod_self_left]
  exact Nat.mod_eq_of_lt (by omega)
theorem on1_eq {x : Nat} (hx : x < 18446744073709551616) : on1 (ofN x) = ofN (t1 8 x) := by
  have hm : rep 85 8 = 6148914691236517205 := by decide
  have l1 : (x / 2 ^ 1) &&& 6148914691236517205 ≤ 6148914691236517205 := Nat.and_le_right
  have l2 : x &&& 6148914691236517205 ≤ 6148914691236517205 := Nat.and_le_right
  unfold on1
  rw [show (1 : Int) = ofN 1 from rfl, show (6148914691236517205 : Int) = ofN 6148914691236517205 from rfl, shr64 (by decide), and64 (by omega) (by decide), and64 hx (by decide), aop_add]
  show IntKind.u64.wrap ((((x / 2 ^ 1) &&& 6148914691236517205 : Nat) : Int) + ((x &&& 6148914691236517205 : Nat) : Int)) = _
  rw [← Int.natCast_add, wrap_u64 (by omega)]
  unfold t1
  rw [hm]
theorem on2_eq {x : Nat} (hx : x < 18446744073709551616) : on2 (ofN x) = ofN (t2 8 x) := by
  have hm : rep 51 8 = 3689348814741910323 := by decide
  have l1 : (x / 2 ^ 2) &&& 3689348814741910323 ≤ 3689348814741910323 := Nat.and_le_right
  have l2 : x &&& 3689348814741910323 ≤ 3689348814741910323 := Nat.and_le_right
  unfold on2
  rw [show (2 : Int) = ofN 2 from rfl, show (3689348814741910323 : Int) = ofN 3689348814741910323 from rfl, shr64 (by decide), and64 (by omega) (by decide), and64 hx (by decide), aop_add]
  show IntKind.u64.wrap ((((x / 2 ^ 2) &&& 3689348814741910323 : Nat) : Int) + ((x &&& 3689348814741910323 : Nat) : Int)) = _
  rw [← Int.natCast_add, wrap_u64 (by omega)]
  unfold t2
  rw [hm]
theorem t2_le (x : Nat) : t2 8 x ≤ 7378697629483820646 := by
  have hm : rep 51 8 = 3689348814741910323 := by decide
  unfold t2
  rw [hm]
  have l1 : (x / 4) &&& 3689348814741910323 ≤ 3689348814741910323 := Nat.and_le_right
  have l2 : x &&& 3689348814741910323 ≤ 3689348814741910323 := Nat.and_le_right
  omega
theorem on3_eq {x : Nat} (hx : x ≤ 7378697629483820646) : on3 (ofN x) = ofN (t3 8 x) := by
  have hm : rep 15 8 = 1085102592571150095 := by decide
  unfold on3
  rw [show (4 : Int) = ofN 4 from rfl, show (1085102592571150095 : Int) = ofN 1085102592571150095 from rfl, shr64 (by decide), aop_add]
  have e : IntKind.u64.wrap (ofN (x / 2 ^ 4) + ofN x) = ofN (x / 16 + x) := by
    show IntKind.u64.wrap (((x / 2 ^ 4 : Nat) : Int) + (x : Int)) = _
    rw [← Int.natCast_add, wrap_u64 (by omega)]
  rw [e, and64 (by omega) (by decide)]
  unfold t3
  rw [hm]
theorem onS_eq {x k : Nat} (hk : k ≤ 64) (hx : x < 9000000000000000000) : onS (ofN k) (ofN x) = ofN (x + x / 2 ^ k) := by
  have := Nat.div_le_self x (2 ^ k)
  unfold onS
  rw [shr64 hk, aop_add]
  show IntKind.u64.wrap ((x : Int) + ((x / 2 ^ k : Nat) : Int)) = _
  rw [← Int.natCast_add, wrap_u64 (by omega)]
theorem last7 {x : Nat} (hx : x < 9000000000000000000) : aop (.bits .and .i64) (IntKind.i64.wrap (ofN x)) 127 = ofN (x % 128) := by
  have hw : IntKind.i64.wrap (ofN x) = ofN x := wrap64 (by simp only [ofN]; omega)
  rw [hw]
  show IntKind.i64.wrap ((BitVec.ofInt 64 (x : Int) &&& BitVec.ofInt 64 ((127 : Nat) : Int)).toNat : Int) = _
  rw [BitVec.ofInt_natCast, BitVec.ofInt_natCast, BitVec.toNat_and, BitVec.toNat_ofNat, BitVec.toNat_ofNat, Nat.mod_eq_of_lt (by omega), show 127 % 2 ^ 64 = 2 ^ 7 - 1 from by decide, Nat.and_two_pow_sub_one_eq_mod]
  exact wrap64 (by omega)
theorem ones_eq {x : Nat} (hx : x < 18446744073709551616) : ones (ofN x) = ofN (popN x 64) := by
  have hm : rep 85 8 = 6148914691236517205 := by decide
  have ht1 : t1 8 x < 18446744073709551616 := by
    unfold t1
    rw [hm]
    have l1 : (x / 2) &&& 6148914691236517205 ≤ 6148914691236517205 := Nat.and_le_right
    have l2 : x &&& 6148914691236517205 ≤ 6148914691236517205 := Nat.and_le_right
    omega
  have hp := psum_pop 8 x
  have hc := chain 8 x
  have h0 := popN_le (x % 256) 8
  have h1 := popN_le (x / 256 % 256) 8
  have h2 := popN_le (x / 256 / 256 % 256) 8
  have h3 := popN_le (x / 256 / 256 / 256 % 256) 8
  have h4 := popN_le (x / 256 / 256 / 256 / 256 % 256) 8
  have h5 := popN_le (x / 256 / 256 / 256 / 256 / 256 % 256) 8
  have h6 := popN_le (x / 256 / 256 / 256 / 256 / 256 / 256 % 256) 8
  have h7 := popN_le (x / 256 / 256 / 256 / 256 / 256 / 256 / 256 % 256) 8
  have hf := fold8 _ _ _ _ _ _ _ _ ⟨h0, h1, h2, h3, h4, h5, h6, h7⟩ (pack 8 x) _ _ _ (by simp only [pack, Nat.zero_mul, Nat.zero_add]) rfl rfl rfl
  obtain ⟨f1, f2, f3, f4, f5⟩ := hf
  unfold ones
  rw [on1_eq hx, on2_eq ht1, on3_eq (t2_le _), hc, show (8 : Int) = ofN 8 from rfl, show (16 : Int) = ofN 16 from rfl, show (32 : Int) = ofN 32 from rfl]
  rw [onS_eq (by decide) (by omega), onS_eq (by decide) (by omega), onS_eq (by decide) (by omega), last7 (by omega)]
  congr 1
  rw [show 8 * 8 = 64 from rfl] at hp
  rw [← hp]
  simp only [psum, Nat.zero_add]
  refine f1.trans ?_
  omega
end Go.Proofs.YtlgmbpnlakjefaaDoor
end

section
/- Contracts: the first example of layer 6. -/
namespace Go.Proofs.YtlgmbpnlakjefaaDoor
open Go.Sy
set_option maxRecDepth 100000
set_option maxHeartbeats 1000000
set_option linter.unusedSimpArgs false
set_option linter.unusedVariables false
def zeroDeal : DealX := ⟨fun _ => 0, fun _ => 0, fun _ => 0, 0, 0, fun _ => 0⟩
theorem byte0 : byte 0 := ⟨by decide, by decide⟩
theorem zero_got : zeroDeal.got := ⟨⟨fun _ => byte0, fun _ => byte0, fun _ => byte0, byte0, byte0⟩, fun _ => (show (0 : Int) ≤ 0 ∧ (0 : Int) < 4294967296 from ⟨by decide, by decide⟩)⟩
theorem zero_ok : LeastX.ok ⟨zeroDeal, ofN 3, ofN 1, 1⟩ := by
  have h := least_ok zero_got (deal_of_valid (by decide)) (x := 3) (y := 1) (by decide) (by decide)
  rwa [show popN (3 ^^^ 1) 15 = 1 by decide] at h
theorem key_ok : KeyX.ok ⟨3, 5, 1⟩ := by refine ⟨?_, ?_, ?_, ?_, ?_, ?_⟩ <;> decide
theorem key_hides : hideI ⟨3, 5, 1⟩ 1 = 5 := by kernel_rfl
theorem key_shows : showI ⟨3, 5, 1⟩ 5 = 1 := by kernel_rfl
theorem e28 : EnvOk Tryd.prog (env [(19, cLeast), (20, cHide), (18, cShow)]) := envOk_cons (envOk_cons (envOk_cons envOk_nil s18 k18.callable) s20 k20.callable) s19 k19.callable
def cAlive : Con := con (fun _ : Unit => []) (fun _ => []) (fun _ => True) (fun _ K => K (.bool (.t fun _ => true)) [])
attribute [local irreducible] hideI showI popN
theorem s4 : Sound Tryd.prog 4 cAlive := by
  refine k4.con tabOk e28 mixed o4 fun x K _ h2 => ?_
  cbv
  refine ⟨⟨zeroDeal, ofN 3, ofN 1, 1⟩, zero_ok, Ent.of_wvs ?_, trivial, ?_⟩
  · cbv
    repeat' first | apply And.intro | exact trivial | exact SameI.mk (by with_reducible rfl) | exact SameN.mk (by with_reducible rfl) | exact SameL.mk (by with_reducible rfl) | exact SameB.mk (by with_reducible rfl) | exact LeN.mk (by with_reducible exact Nat.le_refl _) | apply SameI.mk | apply SameN.mk | apply SameL.mk | apply SameB.mk | apply LeN.mk
    all_goals first | rfl | exact (ofN_succ _).symm | (simp only [toNat_ofN, NX.v, IX.v, Nat.le_refl]; done) | ((try simp only [toNat_ofN, NX.v, IX.v, nadd, nsub]); omega) | skip
  cbv
  refine ⟨(⟨3, 5, 1⟩, 1), ⟨key_ok, by decide, by decide⟩, Ent.of_wvs ?_, trivial, ?_⟩
  · cbv
    repeat' first | apply And.intro | exact trivial | exact SameI.mk (by with_reducible rfl) | exact SameN.mk (by with_reducible rfl) | exact SameL.mk (by with_reducible rfl) | exact SameB.mk (by with_reducible rfl) | exact LeN.mk (by with_reducible exact Nat.le_refl _) | apply SameI.mk | apply SameN.mk | apply SameL.mk | apply SameB.mk | apply LeN.mk
    all_goals first | rfl | exact (ofN_succ _).symm | (simp only [toNat_ofN, NX.v, IX.v, Nat.le_refl]; done) | ((try simp only [toNat_ofN, NX.v, IX.v, nadd, nsub]); omega) | skip
  cbv
  refine ⟨(⟨3, 5, 1⟩, 5), ⟨key_ok, by decide, by decide⟩, Ent.of_wvs ?_, trivial, ?_⟩
  · cbv
    repeat' first | apply And.intro | exact trivial | exact SameI.mk (by with_reducible rfl) | exact SameN.mk (by with_reducible rfl) | exact SameL.mk (by with_reducible rfl) | exact SameB.mk (by with_reducible rfl) | exact LeN.mk (by with_reducible exact Nat.le_refl _) | apply SameI.mk | apply SameN.mk | apply SameL.mk | apply SameB.mk | apply LeN.mk
    all_goals first | rfl | exact (ofN_succ _).symm | (simp only [toNat_ofN, NX.v, IX.v, Nat.le_refl]; done) | ((try simp only [toNat_ofN, NX.v, IX.v, nadd, nsub]); omega) | skip
    all_goals exact key_hides
  cbv
  refine Br.t (fun b => ?_) (fun b => ?_)
  rotate_left
  · cases b
  cbv
  refine Br.t (fun b => ?_) (fun b => ?_)
  rotate_left
  · exact eq_f.1 b rfl
  cbv
  refine Br.t (fun b => ?_) (fun b => ?_)
  rotate_left
  · exact eq_f.1 b key_hides
  cbv
  refine .mk _ _ h2 ?_ ?_
  all_goals cbv
  all_goals repeat' first | apply And.intro | exact trivial | exact SameI.mk (by with_reducible rfl) | exact SameN.mk (by with_reducible rfl) | exact SameL.mk (by with_reducible rfl) | exact SameB.mk (by with_reducible rfl) | exact LeN.mk (by with_reducible exact Nat.le_refl _) | apply SameI.mk | apply SameN.mk | apply SameL.mk | apply SameB.mk | apply LeN.mk
  all_goals first | rfl | exact (ofN_succ _).symm | (simp only [toNat_ofN, NX.v, IX.v, Nat.le_refl]; done) | ((try simp only [toNat_ofN, NX.v, IX.v, nadd, nsub]); omega) | skip
  show cop .eq (showI ⟨3, 5, 1⟩ 5) 1 = true
  exact eq_t.2 key_shows
end Go.Proofs.YtlgmbpnlakjefaaDoor
end

section
/- Plain law: the codes of layer 5: a word's rest is linear, and no two words of few bits have the same rest. -/
namespace Go.Proofs.YtlgmbpnlakjefaaDoor
open Go.Sy
set_option maxRecDepth 100000
set_option linter.unusedVariables false
def gN : Nat → Nat
  | 1 => 19
  | 2 => 465
  | _ => 1335
def kdN : Nat → Nat
  | 1 => 11
  | 2 => 7
  | _ => 5
def tN : Nat → Nat
  | 1 => 1
  | 2 => 2
  | _ => 3
def fN (kd : Nat) : Nat := 15 - kdN kd
def Kind3 (kd : Nat) : Prop := kd = 1 ∨ kd = 2 ∨ kd = 3
def colN (kd : Nat) : Nat → Nat
  | 0 => 1
  | i + 1 => if (2 * colN kd i).testBit (fN kd) then (2 * colN kd i) ^^^ gN kd else 2 * colN kd i
def cols : Nat → List Nat
  | 1 => [1, 2, 4, 8, 3, 6, 12, 11, 5, 10, 7, 14, 15, 13, 9]
  | 2 => [1, 2, 4, 8, 16, 32, 64, 128, 209, 115, 230, 29, 58, 116, 232]
  | _ => [1, 2, 4, 8, 16, 32, 64, 128, 256, 512, 311, 622, 491, 982, 667]
theorem cols_ok : (List.range 15).map (colN 1) = cols 1 ∧ (List.range 15).map (colN 2) = cols 2 ∧ (List.range 15).map (colN 3) = cols 3 := by decide
def restC : List Nat → Nat → Nat
  | [], _ => 0
  | c :: cs, w => (if w.testBit 0 then c else 0) ^^^ restC cs (w / 2)
def restL (kd w : Nat) : Nat := restC (cols kd) w
theorem restC_xor : ∀ (cs : List Nat) (a b : Nat), restC cs (a ^^^ b) = restC cs a ^^^ restC cs b
  | [], _, _ => by simp [restC]
  | c :: cs, a, b => by
    have e : (a ^^^ b) / 2 = (a / 2) ^^^ (b / 2) := by
      apply Nat.eq_of_testBit_eq
      intro i
      simp only [Nat.testBit_xor, Nat.testBit_div_two]
    simp only [restC, e, restC_xor cs, Nat.testBit_xor]
    generalize restC cs (a / 2) = p
    generalize restC cs (b / 2) = q
    have l : ∀ x y z : Nat, x ^^^ (y ^^^ z) = y ^^^ (x ^^^ z) := fun x y z => by rw [← Nat.xor_assoc, Nat.xor_comm x y, Nat.xor_assoc]
    cases a.testBit 0 <;> cases b.testBit 0
    · simp
    · simp; exact l _ _ _
    · simp [Nat.xor_assoc]
    · simp only [Bool.xor_self, Bool.false_eq_true, if_false, if_true, Nat.zero_xor]
      rw [Nat.xor_assoc, l p c q, ← Nat.xor_assoc c c, Nat.xor_self, Nat.zero_xor]
theorem restL_xor (kd a b : Nat) : restL kd (a ^^^ b) = restL kd a ^^^ restL kd b := restC_xor _ _ _
theorem restC_lt {f : Nat} : ∀ (cs : List Nat), (∀ c ∈ cs, c < 2 ^ f) → ∀ w, restC cs w < 2 ^ f
  | [], _, _ => Nat.two_pow_pos f
  | c :: cs, h, w => by
    refine Nat.xor_lt_two_pow ?_ (restC_lt cs (fun x hx => h x (by simp [hx])) _)
    split
    · exact h c (by simp)
    · exact Nat.two_pow_pos f
theorem restL_lt {kd : Nat} (hk : Kind3 kd) (w : Nat) : restL kd w < 2 ^ fN kd := by
  rcases hk with rfl | rfl | rfl <;> exact restC_lt _ (by decide) w
def lowChk (kd : Nat) : Bool := (List.range (2 ^ fN kd)).all fun w => restL kd w == w
theorem low_ok : lowChk 1 = true ∧ lowChk 2 = true ∧ lowChk 3 = true := by refine ⟨?_, ?_, ?_⟩ <;> decide +kernel
theorem restL_low {kd w : Nat} (hk : Kind3 kd) (h : w < 2 ^ fN kd) : restL kd w = w := by
  have : lowChk kd = true := by rcases hk with rfl | rfl | rfl; exact low_ok.1; exact low_ok.2.1; exact low_ok.2.2
  simpa using List.all_eq_true.1 this w (List.mem_range.2 h)
def genChk (kd : Nat) : Bool := (List.range (kdN kd)).all fun j => restL kd (gN kd * 2 ^ j) == 0
theorem gen_ok : genChk 1 = true ∧ genChk 2 = true ∧ genChk 3 = true := by refine ⟨?_, ?_, ?_⟩ <;> decide +kernel
theorem restL_gen {kd j : Nat} (hk : Kind3 kd) (h : j < kdN kd) : restL kd (gN kd * 2 ^ j) = 0 := by
  have : genChk kd = true := by rcases hk with rfl | rfl | rfl; exact gen_ok.1; exact gen_ok.2.1; exact gen_ok.2.2
  simpa using List.all_eq_true.1 this j (List.mem_range.2 h)
/-! ### a word's length in bits -/
def blen (w : Nat) : Nat := if w = 0 then 0 else w.log2 + 1
theorem blen_le {w n : Nat} : blen w ≤ n ↔ w < 2 ^ n := by
  unfold blen
  split
  · rename_i h; subst h; simp [Nat.two_pow_pos]
  · rename_i h
    rw [← Nat.log2_lt h]; omega
theorem blen_shift {w : Nat} (h : 256 ≤ w) : blen w = 8 + blen (w / 256) := by
  have e : ∀ n, blen w ≤ n ↔ 8 + blen (w / 256) ≤ n := by
    intro n
    rw [blen_le]
    by_cases hn : n < 8
    · have : 2 ^ n ≤ 2 ^ 8 := Nat.pow_le_pow_right (by decide) (by omega)
      constructor
      · intro h2; omega
      · intro h2; omega
    · obtain ⟨m, rfl⟩ : ∃ m, n = 8 + m := ⟨n - 8, by omega⟩
      rw [Nat.add_le_add_iff_left, blen_le, Nat.pow_add, Nat.div_lt_iff_lt_mul (by decide), Nat.mul_comm]
  have h1 := (e (8 + blen (w / 256))).2 (Nat.le_refl _)
  have h2 := (e (blen w)).1 (Nat.le_refl _)
  omega
theorem top_bit {w n : Nat} (h1 : 2 ^ n ≤ w) (h2 : w < 2 ^ (n + 1)) : w.testBit n = true := by
  rw [Nat.testBit_eq_decide_div_mod_eq]
  have h3 : w / 2 ^ n = 1 := by
    rw [Nat.div_eq_iff (Nat.two_pow_pos n)]
    rw [Nat.pow_succ] at h2
    omega
  simp [h3]
theorem gN_bits {kd : Nat} (hk : Kind3 kd) : 2 ^ fN kd ≤ gN kd ∧ gN kd < 2 ^ (fN kd + 1) ∧ fN kd + kdN kd = 15 := by
  rcases hk with rfl | rfl | rfl <;> decide
theorem step_lt {kd w : Nat} (hk : Kind3 kd) (hw : w < 32768) (h : fN kd < blen w) : w ^^^ (gN kd * 2 ^ (blen w - fN kd - 1)) < w ∧ gN kd * 2 ^ (blen w - fN kd - 1) < 32768 ∧ blen w - fN kd - 1 < kdN kd ∧ blen w ≤ 15 := by
  obtain ⟨g1, g2, g3⟩ := gN_bits hk
  have hb : blen w ≤ 15 := blen_le.2 hw
  obtain ⟨n, hn⟩ : ∃ n, blen w = n + 1 := ⟨blen w - 1, by omega⟩
  have h1 : w < 2 ^ (n + 1) := blen_le.1 (by omega)
  have h2 : 2 ^ n ≤ w := by
    have := mt (blen_le (w := w) (n := n)).2 (by omega)
    omega
  generalize hj : blen w - fN kd - 1 = j
  have hjn : fN kd + j = n := by omega
  have e1 : 2 ^ n ≤ gN kd * 2 ^ j := by rw [← hjn, Nat.pow_add]; exact Nat.mul_le_mul_right _ g1
  have e2 : gN kd * 2 ^ j < 2 ^ (n + 1) := by
    rw [← hjn, show fN kd + j + 1 = (fN kd + 1) + j by omega, Nat.pow_add]
    exact Nat.mul_lt_mul_of_pos_right g2 (Nat.two_pow_pos j)
  have hle : 2 ^ (n + 1) ≤ 2 ^ 15 := Nat.pow_le_pow_right (by decide) (by omega)
  refine ⟨?_, by have : (2 : Nat) ^ 15 = 32768 := rfl; omega, by omega, hb⟩
  have hx : w ^^^ (gN kd * 2 ^ j) < 2 ^ n := by
    apply Nat.lt_pow_two_of_testBit
    intro i hi
    rw [Nat.testBit_xor]
    rcases Nat.lt_or_ge n i with h3 | h3
    · have z1 : w.testBit i = false := Nat.testBit_lt_two_pow (Nat.lt_of_lt_of_le h1 (Nat.pow_le_pow_right (by decide) (by omega)))
      have z2 : (gN kd * 2 ^ j).testBit i = false := Nat.testBit_lt_two_pow (Nat.lt_of_lt_of_le e2 (Nat.pow_le_pow_right (by decide) (by omega)))
      rw [z1, z2]; rfl
    · obtain rfl : i = n := by omega
      rw [top_bit h2 h1, top_bit e1 e2]; rfl
  omega
theorem step_rest {kd w : Nat} (hk : Kind3 kd) (hw : w < 32768) (h : fN kd < blen w) : restL kd (w ^^^ (gN kd * 2 ^ (blen w - fN kd - 1))) = restL kd w := by
  rw [restL_xor, restL_gen hk (step_lt hk hw h).2.2.1, Nat.xor_zero]
/-! ### few bits -/
theorem popN_succ (x n : Nat) : popN x (n + 1) = (x.testBit 0).toNat + popN (x / 2) n := by
  rw [Nat.add_comm n 1, popN_split]; simp [popN]
/-- no choice of at most 'left' of the columns, but the empty one, comes to 'acc' -/
def noz : List Nat → Nat → Nat → Bool → Bool
  | [], _, acc, used => !used || !(acc == 0)
  | c :: cs, left, acc, used => noz cs left acc used && (match left with | 0 => true | l + 1 => noz cs l (acc ^^^ c) true)
theorem noz_spec : ∀ (cs : List Nat) (left acc : Nat) (used : Bool), noz cs left acc used = true → ∀ w, popN w cs.length ≤ left → (used = true ∨ 0 < popN w cs.length) → acc ^^^ restC cs w ≠ 0
  | [], left, acc, used, h, w, _, hu => by
    simp only [noz, Bool.or_eq_true, Bool.not_eq_true', beq_eq_false_iff_ne] at h
    simp only [List.length_nil, popN] at hu
    rcases hu with rfl | hu
    · simpa [restC] using h
    · omega
  | c :: cs, left, acc, used, h, w, hl, hu => by
    simp only [noz, Bool.and_eq_true] at h
    simp only [List.length_cons, popN_succ] at hl hu
    simp only [restC]
    cases hb : w.testBit 0 with
    | false =>
      rw [hb] at hl hu
      simp only [Bool.toNat_false, Nat.zero_add] at hl hu
      simpa using noz_spec cs left acc used h.1 (w / 2) hl hu
    | true =>
      rw [hb] at hl
      simp only [Bool.toNat_true] at hl
      cases left with
      | zero => omega
      | succ l =>
        have := noz_spec cs l (acc ^^^ c) true h.2 (w / 2) (by omega) (.inl rfl)
        simpa [Nat.xor_assoc] using this
theorem far_ok : noz (cols 1) 2 0 false = true ∧ noz (cols 2) 4 0 false = true ∧ noz (cols 3) 6 0 false = true := by refine ⟨?_, ?_, ?_⟩ <;> decide +kernel
theorem rest_far {kd w : Nat} (hk : Kind3 kd) (h : popN w 15 ≤ 2 * tN kd) (h0 : 0 < popN w 15) : restL kd w ≠ 0 := by
  have := far_ok
  rcases hk with rfl | rfl | rfl
  · simpa [restL] using noz_spec (cols 1) 2 0 false this.1 w h (.inr h0)
  · simpa [restL] using noz_spec (cols 2) 4 0 false this.2.1 w h (.inr h0)
  · simpa [restL] using noz_spec (cols 3) 6 0 false this.2.2 w h (.inr h0)
theorem popN_xor (x y : Nat) : ∀ n, popN (x ^^^ y) n ≤ popN x n + popN y n
  | 0 => Nat.le_refl _
  | n + 1 => by
    have := popN_xor x y n
    simp only [popN, Nat.testBit_xor]
    cases x.testBit n <;> cases y.testBit n <;> simp <;> omega
theorem popN_zero {w : Nat} : ∀ {n : Nat}, popN w n = 0 → ∀ i, i < n → w.testBit i = false
  | 0, _, i, hi => by omega
  | n + 1, h, i, hi => by
    simp only [popN] at h
    rcases Nat.lt_or_ge i n with h1 | h1
    · exact popN_zero (n := n) (by omega) i h1
    · obtain rfl : i = n := by omega
      cases hb : w.testBit i with
      | false => rfl
      | true => rw [hb] at h; simp at h
/-- two words of at most t bits with the same rest are one -/
theorem rest_one {kd a b : Nat} (hk : Kind3 kd) (ha : a < 32768) (hb : b < 32768) (h1 : popN a 15 ≤ tN kd) (h2 : popN b 15 ≤ tN kd) (h : restL kd a = restL kd b) : a = b := by
  have hx := popN_xor a b 15
  by_cases h0 : popN (a ^^^ b) 15 = 0
  · apply Nat.eq_of_testBit_eq
    intro i
    by_cases hi : i < 15
    · have := popN_zero h0 i hi
      rw [Nat.testBit_xor] at this
      cases h3 : a.testBit i <;> cases h4 : b.testBit i <;> simp_all
    · rw [Nat.testBit_lt_two_pow (Nat.lt_of_lt_of_le ha (show 2 ^ 15 ≤ 2 ^ i from Nat.pow_le_pow_right (by decide) (by omega))), Nat.testBit_lt_two_pow (Nat.lt_of_lt_of_le hb (show 2 ^ 15 ≤ 2 ^ i from Nat.pow_le_pow_right (by decide) (by omega)))]
  · exact absurd (by rw [restL_xor, h, Nat.xor_self]) (rest_far hk (by omega) (by omega) : restL kd (a ^^^ b) ≠ 0)
/-! ### the search -/
def tryF (F : Nat → Nat → Option Nat) (e : Nat) : Nat → Nat → Option Nat
  | 0, _ => none
  | n + 1, i => match F (e ||| 2 ^ i) (i + 1) with
    | some x => some x
    | none => tryF F e n (i + 1)
def findF (kd s : Nat) : Nat → Nat → Nat → Option Nat
  | 0, e, _ => if restL kd e = s then some e else none
  | l + 1, e, from_ => if restL kd e = s then some e else tryF (findF kd s l) e (15 - from_) from_
theorem or_bit {e i : Nat} (he : e < 2 ^ i) : e ||| 2 ^ i = e + 2 ^ i := by
  have := Nat.two_pow_add_eq_or_of_lt he 1
  rw [Nat.mul_one] at this
  rw [Nat.or_comm, ← this, Nat.add_comm]
theorem popN_high {w i : Nat} (h : w < 2 ^ i) : ∀ n, i ≤ n → popN w n = popN w i
  | 0, hn => by obtain rfl : i = 0 := by omega
                rfl
  | n + 1, hn => by
    rcases Nat.lt_or_ge n i with h1 | h1
    · obtain rfl : i = n + 1 := by omega
      rfl
    · simp only [popN]
      rw [popN_high h n h1, Nat.testBit_lt_two_pow (Nat.lt_of_lt_of_le h (Nat.pow_le_pow_right (by decide) h1))]
      rfl
theorem pop_or {e i : Nat} (he : e < 2 ^ i) (hi : i < 15) : popN (e ||| 2 ^ i) 15 = popN e 15 + 1 := by
  have h1 : (e ||| 2 ^ i) < 2 ^ (i + 1) := by rw [or_bit he, Nat.pow_succ]; omega
  rw [popN_high h1 15 (by omega), popN_high he 15 (by omega)]
  have : ∀ n, n ≤ i → popN (e ||| 2 ^ i) n = popN e n := by
    intro n
    induction n with
    | zero => intro _; rfl
    | succ n ih =>
      intro hn
      simp only [popN]
      rw [ih (by omega), Nat.testBit_or, Nat.testBit_two_pow_of_ne (by omega : i ≠ n), Bool.or_false]
  simp only [popN]
  rw [this i (Nat.le_refl _), Nat.testBit_or, Nat.testBit_two_pow_self, Bool.or_true]; rfl
theorem find_sound {kd s : Nat} : ∀ (l e i x : Nat), e < 2 ^ i → i ≤ 15 → findF kd s l e i = some x → restL kd x = s ∧ x < 32768 ∧ popN x 15 ≤ popN e 15 + l
  | 0, e, i, x, he, hi, h => by
    simp only [findF] at h
    split at h
    · simp at h; subst h
      exact ⟨‹_›, Nat.lt_of_lt_of_le he (Nat.pow_le_pow_right (by decide) hi), Nat.le_refl _⟩
    · cases h
  | l + 1, e, i, x, he, hi, h => by
    simp only [findF] at h
    split at h
    · simp at h; subst h
      exact ⟨‹_›, Nat.lt_of_lt_of_le he (Nat.pow_le_pow_right (by decide) hi), Nat.le_add_right _ _⟩
    · have key : ∀ n j, i ≤ j → j + n = 15 → tryF (findF kd s l) e n j = some x → restL kd x = s ∧ x < 32768 ∧ popN x 15 ≤ popN e 15 + (l + 1) := by
        intro n
        induction n with
        | zero => intro j _ _ h; cases h
        | succ n ih =>
          intro j hj hn h
          have hej : e < 2 ^ j := Nat.lt_of_lt_of_le he (Nat.pow_le_pow_right (by decide) hj)
          simp only [tryF] at h
          split at h
          · rename_i y hy
            simp at h; subst h
            have := find_sound l (e ||| 2 ^ j) (j + 1) y (by rw [or_bit hej, Nat.pow_succ]; omega) (by omega) hy
            rw [pop_or hej (by omega)] at this
            exact ⟨this.1, this.2.1, by omega⟩
          · exact ih (j + 1) (by omega) (by omega) h
      exact key (15 - i) i (Nat.le_refl _) (by omega) h
theorem find_none {kd s : Nat} : ∀ (l e i : Nat), e < 2 ^ i → i ≤ 15 → findF kd s l e i = none → ∀ d, d < 32768 → d % 2 ^ i = e → popN d 15 ≤ popN e 15 + l → restL kd d ≠ s := by
  intro l
  induction l with
  | zero =>
    intro e i he hi h d hd hm hp
    have hde : d = e := by
      have h0 : popN (d / 2 ^ i) (15 - i) = 0 := by
        have := popN_split d i (15 - i)
        rw [show i + (15 - i) = 15 by omega] at this
        have h3 : popN d i = popN e i := by rw [← hm, popN_mod _ _ _ (Nat.le_refl _)]
        rw [popN_high he 15 hi] at hp
        omega
      have hz : d / 2 ^ i = 0 := by
        apply Nat.eq_of_testBit_eq
        intro j
        rw [Nat.zero_testBit]
        by_cases hj : j < 15 - i
        · exact popN_zero h0 j hj
        · rw [Nat.testBit_div_two_pow]
          exact Nat.testBit_lt_two_pow (Nat.lt_of_lt_of_le hd (show 2 ^ 15 ≤ _ from Nat.pow_le_pow_right (by decide) (by omega)))
      have := Nat.div_add_mod d (2 ^ i)
      rw [hz, hm] at this; omega
    subst hde
    simp only [findF] at h
    split at h
    · cases h
    · assumption
  | succ l ihl =>
    intro e i he hi h d hd hm hp
    simp only [findF] at h
    split at h
    · cases h
    · rename_i hne
      have key : ∀ n j, i ≤ j → j + n = 15 → d % 2 ^ j = e → tryF (findF kd s l) e n j = none → restL kd d ≠ s := by
        intro n
        induction n with
        | zero =>
          intro j hj hn hm2 _
          obtain rfl : j = 15 := by omega
          rw [Nat.mod_eq_of_lt hd] at hm2
          rw [hm2]; exact hne
        | succ n ih =>
          intro j hj hn hm2 h
          have hej : e < 2 ^ j := Nat.lt_of_lt_of_le he (Nat.pow_le_pow_right (by decide) hj)
          simp only [tryF] at h
          split at h
          · cases h
          · rename_i hf
            have hmj : d % 2 ^ (j + 1) = e + (d.testBit j).toNat * 2 ^ j := by
              rw [Nat.pow_succ, Nat.mod_mul, hm2, Nat.testBit_eq_decide_div_mod_eq]
              rcases Nat.mod_two_eq_zero_or_one (d / 2 ^ j) with h4 | h4 <;> simp [h4]
            cases hb : d.testBit j with
            | false =>
              rw [hb] at hmj
              exact ih (j + 1) (by omega) (by omega) (by simpa using hmj) h
            | true =>
              rw [hb] at hmj
              refine ihl (e ||| 2 ^ j) (j + 1) (by rw [or_bit hej, Nat.pow_succ]; omega) (by omega) hf d hd (by rw [hmj, or_bit hej]; simp) ?_
              rw [pop_or hej (by omega)]; omega
      exact key (15 - i) i (Nat.le_refl _) (by omega) hm h
/-- the least word of few bits with a rest -/
def errN (kd s : Nat) : Option Nat := findF kd s (tN kd) 0 0
theorem err_near {kd d : Nat} (hk : Kind3 kd) (hd : d < 32768) (h : popN d 15 ≤ tN kd) : errN kd (restL kd d) = some d := by
  cases he : errN kd (restL kd d) with
  | none => exact absurd rfl (find_none (tN kd) 0 0 (by decide) (by decide) he d hd (by simp [Nat.mod_one]) (by rw [show popN 0 15 = 0 from rfl]; omega))
  | some x =>
    obtain ⟨h1, h2, h3⟩ := find_sound (tN kd) 0 0 x (by decide) (by decide) he
    rw [show popN 0 15 = 0 from rfl] at h3
    rw [rest_one hk h2 hd (by omega) h h1]
theorem err_far {kd d x : Nat} (hd : ¬ popN d 15 ≤ tN kd) (h : errN kd (restL kd d) = some x) : x ≠ d ∧ x < 32768 := by
  obtain ⟨h1, h2, h3⟩ := find_sound (tN kd) 0 0 x (by decide) (by decide) h
  rw [show popN 0 15 = 0 from rfl] at h3
  exact ⟨fun e => hd (by rw [← e]; omega), h2⟩
theorem err_lt {kd s x : Nat} (h : errN kd s = some x) : x < 32768 := (find_sound (tN kd) 0 0 x (by decide) (by decide) h).2.1
end Go.Proofs.YtlgmbpnlakjefaaDoor
end

section
/- What the kernel is asked of each function's row. Written by a program of this session's own. -/
namespace Go.Proofs.YtlgmbpnlakjefaaDoor
open Go.Sy
set_option maxRecDepth 10000
theorem k3 : fnChk Tryd.prog 3 (Tryd.f3.body.getD .skip) Tryd.f3.ntmps Tryd.f3.results.toList := ⟨Tryd.f3, by kernel_rfl, rfl, rfl, rfl, by decide⟩
theorem o3 : codeOk (Tryd.f3.body.getD .skip) = true := by kernel_rfl
theorem k5 : fnChk Tryd.prog 5 (Tryd.f5.body.getD .skip) Tryd.f5.ntmps Tryd.f5.results.toList := ⟨Tryd.f5, by kernel_rfl, rfl, rfl, rfl, by decide⟩
theorem o5 : codeOk (Tryd.f5.body.getD .skip) = true := by kernel_rfl
theorem k6 : fnChk Tryd.prog 6 (Tryd.f6.body.getD .skip) Tryd.f6.ntmps Tryd.f6.results.toList := ⟨Tryd.f6, by kernel_rfl, rfl, rfl, rfl, by decide⟩
theorem o6 : codeOk (Tryd.f6.body.getD .skip) = true := by kernel_rfl
theorem k7 : fnChk Tryd.prog 7 (Tryd.f7.body.getD .skip) Tryd.f7.ntmps Tryd.f7.results.toList := ⟨Tryd.f7, by kernel_rfl, rfl, rfl, rfl, by decide⟩
theorem o7 : codeOk (Tryd.f7.body.getD .skip) = true := by kernel_rfl
theorem k9 : fnChk Tryd.prog 9 (Tryd.f9.body.getD .skip) Tryd.f9.ntmps Tryd.f9.results.toList := ⟨Tryd.f9, by kernel_rfl, rfl, rfl, rfl, by decide⟩
theorem o9 : codeOk (Tryd.f9.body.getD .skip) = true := by kernel_rfl
theorem k10 : fnChk Tryd.prog 10 (Tryd.f10.body.getD .skip) Tryd.f10.ntmps Tryd.f10.results.toList := ⟨Tryd.f10, by kernel_rfl, rfl, rfl, rfl, by decide⟩
theorem o10 : codeOk (Tryd.f10.body.getD .skip) = true := by kernel_rfl
theorem k11 : fnChk Tryd.prog 11 (Tryd.f11.body.getD .skip) Tryd.f11.ntmps Tryd.f11.results.toList := ⟨Tryd.f11, by kernel_rfl, rfl, rfl, rfl, by decide⟩
theorem o11 : codeOk (Tryd.f11.body.getD .skip) = true := by kernel_rfl
theorem k12 : fnChk Tryd.prog 12 (Tryd.f12.body.getD .skip) Tryd.f12.ntmps Tryd.f12.results.toList := ⟨Tryd.f12, by kernel_rfl, rfl, rfl, rfl, by decide⟩
theorem o12 : codeOk (Tryd.f12.body.getD .skip) = true := by kernel_rfl
theorem k13 : fnChk Tryd.prog 13 (Tryd.f13.body.getD .skip) Tryd.f13.ntmps Tryd.f13.results.toList := ⟨Tryd.f13, by kernel_rfl, rfl, rfl, rfl, by decide⟩
theorem o13 : codeOk (Tryd.f13.body.getD .skip) = true := by kernel_rfl
theorem k14 : fnChk Tryd.prog 14 (Tryd.f14.body.getD .skip) Tryd.f14.ntmps Tryd.f14.results.toList := ⟨Tryd.f14, by kernel_rfl, rfl, rfl, rfl, by decide⟩
theorem o14 : codeOk (Tryd.f14.body.getD .skip) = true := by kernel_rfl
theorem k15 : fnChk Tryd.prog 15 (Tryd.f15.body.getD .skip) Tryd.f15.ntmps Tryd.f15.results.toList := ⟨Tryd.f15, by kernel_rfl, rfl, rfl, rfl, by decide⟩
theorem o15 : codeOk (Tryd.f15.body.getD .skip) = true := by kernel_rfl
theorem k16 : fnChk Tryd.prog 16 (Tryd.f16.body.getD .skip) Tryd.f16.ntmps Tryd.f16.results.toList := ⟨Tryd.f16, by kernel_rfl, rfl, rfl, rfl, by decide⟩
theorem o16 : codeOk (Tryd.f16.body.getD .skip) = true := by kernel_rfl
theorem k17 : fnChk Tryd.prog 17 (Tryd.f17.body.getD .skip) Tryd.f17.ntmps Tryd.f17.results.toList := ⟨Tryd.f17, by kernel_rfl, rfl, rfl, rfl, by decide⟩
theorem o17 : codeOk (Tryd.f17.body.getD .skip) = true := by kernel_rfl
theorem k24 : fnChk Tryd.prog 24 (Tryd.f24.body.getD .skip) Tryd.f24.ntmps Tryd.f24.results.toList := ⟨Tryd.f24, by kernel_rfl, rfl, rfl, rfl, by decide⟩
theorem o24 : codeOk (Tryd.f24.body.getD .skip) = true := by kernel_rfl
theorem k25 : fnChk Tryd.prog 25 (Tryd.f25.body.getD .skip) Tryd.f25.ntmps Tryd.f25.results.toList := ⟨Tryd.f25, by kernel_rfl, rfl, rfl, rfl, by decide⟩
theorem o25 : codeOk (Tryd.f25.body.getD .skip) = true := by kernel_rfl
theorem k26 : fnChk Tryd.prog 26 (Tryd.f26.body.getD .skip) Tryd.f26.ntmps Tryd.f26.results.toList := ⟨Tryd.f26, by kernel_rfl, rfl, rfl, rfl, by decide⟩
theorem o26 : codeOk (Tryd.f26.body.getD .skip) = true := by kernel_rfl
theorem k27 : fnChk Tryd.prog 27 (Tryd.f27.body.getD .skip) Tryd.f27.ntmps Tryd.f27.results.toList := ⟨Tryd.f27, by kernel_rfl, rfl, rfl, rfl, by decide⟩
theorem o27 : codeOk (Tryd.f27.body.getD .skip) = true := by kernel_rfl
theorem k28 : fnChk Tryd.prog 28 (Tryd.f28.body.getD .skip) Tryd.f28.ntmps Tryd.f28.results.toList := ⟨Tryd.f28, by kernel_rfl, rfl, rfl, rfl, by decide⟩
theorem o28 : codeOk (Tryd.f28.body.getD .skip) = true := by kernel_rfl
theorem k29 : fnChk Tryd.prog 29 (Tryd.f29.body.getD .skip) Tryd.f29.ntmps Tryd.f29.results.toList := ⟨Tryd.f29, by kernel_rfl, rfl, rfl, rfl, by decide⟩
theorem o29 : codeOk (Tryd.f29.body.getD .skip) = true := by kernel_rfl
theorem k30 : fnChk Tryd.prog 30 (Tryd.f30.body.getD .skip) Tryd.f30.ntmps Tryd.f30.results.toList := ⟨Tryd.f30, by kernel_rfl, rfl, rfl, rfl, by decide⟩
theorem o30 : codeOk (Tryd.f30.body.getD .skip) = true := by kernel_rfl
theorem k31 : fnChk Tryd.prog 31 (Tryd.f31.body.getD .skip) Tryd.f31.ntmps Tryd.f31.results.toList := ⟨Tryd.f31, by kernel_rfl, rfl, rfl, rfl, by decide⟩
theorem o31 : codeOk (Tryd.f31.body.getD .skip) = true := by kernel_rfl
theorem k32 : fnChk Tryd.prog 32 (Tryd.f32.body.getD .skip) Tryd.f32.ntmps Tryd.f32.results.toList := ⟨Tryd.f32, by kernel_rfl, rfl, rfl, rfl, by decide⟩
theorem o32 : codeOk (Tryd.f32.body.getD .skip) = true := by kernel_rfl
theorem k33 : fnChk Tryd.prog 33 (Tryd.f33.body.getD .skip) Tryd.f33.ntmps Tryd.f33.results.toList := ⟨Tryd.f33, by kernel_rfl, rfl, rfl, rfl, by decide⟩
theorem o33 : codeOk (Tryd.f33.body.getD .skip) = true := by kernel_rfl
theorem k34 : fnChk Tryd.prog 34 (Tryd.f34.body.getD .skip) Tryd.f34.ntmps Tryd.f34.results.toList := ⟨Tryd.f34, by kernel_rfl, rfl, rfl, rfl, by decide⟩
theorem o34 : codeOk (Tryd.f34.body.getD .skip) = true := by kernel_rfl
theorem k40 : fnChk Tryd.prog 40 (Tryd.f40.body.getD .skip) Tryd.f40.ntmps Tryd.f40.results.toList := ⟨Tryd.f40, by kernel_rfl, rfl, rfl, rfl, by decide⟩
theorem o40 : codeOk (Tryd.f40.body.getD .skip) = true := by kernel_rfl
theorem k41 : fnChk Tryd.prog 41 (Tryd.f41.body.getD .skip) Tryd.f41.ntmps Tryd.f41.results.toList := ⟨Tryd.f41, by kernel_rfl, rfl, rfl, rfl, by decide⟩
theorem o41 : codeOk (Tryd.f41.body.getD .skip) = true := by kernel_rfl
theorem k42 : fnChk Tryd.prog 42 (Tryd.f42.body.getD .skip) Tryd.f42.ntmps Tryd.f42.results.toList := ⟨Tryd.f42, by kernel_rfl, rfl, rfl, rfl, by decide⟩
theorem o42 : codeOk (Tryd.f42.body.getD .skip) = true := by kernel_rfl
theorem k43 : fnChk Tryd.prog 43 (Tryd.f43.body.getD .skip) Tryd.f43.ntmps Tryd.f43.results.toList := ⟨Tryd.f43, by kernel_rfl, rfl, rfl, rfl, by decide⟩
theorem o43 : codeOk (Tryd.f43.body.getD .skip) = true := by kernel_rfl
theorem k44 : fnChk Tryd.prog 44 (Tryd.f44.body.getD .skip) Tryd.f44.ntmps Tryd.f44.results.toList := ⟨Tryd.f44, by kernel_rfl, rfl, rfl, rfl, by decide⟩
theorem o44 : codeOk (Tryd.f44.body.getD .skip) = true := by kernel_rfl
theorem k45 : fnChk Tryd.prog 45 (Tryd.f45.body.getD .skip) Tryd.f45.ntmps Tryd.f45.results.toList := ⟨Tryd.f45, by kernel_rfl, rfl, rfl, rfl, by decide⟩
theorem o45 : codeOk (Tryd.f45.body.getD .skip) = true := by kernel_rfl
theorem k57 : fnChk Tryd.prog 57 (Tryd.f57.body.getD .skip) Tryd.f57.ntmps Tryd.f57.results.toList := ⟨Tryd.f57, by kernel_rfl, rfl, rfl, rfl, by decide⟩
theorem o57 : codeOk (Tryd.f57.body.getD .skip) = true := by kernel_rfl
end Go.Proofs.YtlgmbpnlakjefaaDoor
end
