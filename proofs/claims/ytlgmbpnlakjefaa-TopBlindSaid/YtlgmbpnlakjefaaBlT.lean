/- Plain law: what is hidden under an old key, renewed, is what the new key hides; distances stay as they are. -/
import Derived.Test.YtlgmbpnlakjefaaBlS
namespace Go.Proofs.Ytlgmbpnlakjefaa
open Go.Sy
set_option maxRecDepth 100000
set_option maxHeartbeats 1000000
set_option linter.unusedSimpArgs false
set_option linter.unusedVariables false
theorem pow16 {n : Nat} (h : n ≤ 15) : 2 ^ n ≤ 32768 := (pow_le15 h).2
def hideN (k : KeyX) (w : Nat) : Nat := wN (fun i => w.testBit (sig k i)) k.n ^^^ k.pad.toNat
theorem pad_lt {k : KeyX} (hk : k.ok) : k.pad.toNat < 2 ^ k.n := by
  have h := hk.2.2.2.2.2
  rw [ofN_of hk.2.2.2.2.1] at h
  exact ofN_lt.1 h
theorem hideI_eq {k : KeyX} (hk : k.ok) {w : Nat} (hw : w < 65536) : hideI k (ofN w) = ofN (hideN k w) := by
  have h1 := hk.2.1
  have hp := pow16 h1
  have hpl := pad_lt hk
  have e := picked (n := k.n) (w := w) (o := ordI k.n k.perm) (s := sig k) (by omega) hw (ordI_length _ _) (fun i hi => ordI_get hi) (fun i hi => sig_lt hk hi)
  unfold hideI
  rw [e, ofN_of hk.2.2.2.2.1]
  have hl := wN_lt (fun i => w.testBit (sig k i)) k.n
  rw [xor16 (by omega) (by omega)]
  rfl
theorem hideN_lt {k : KeyX} (hk : k.ok) (w : Nat) : hideN k w < 2 ^ k.n := Nat.xor_lt_two_pow (wN_lt _ _) (pad_lt hk)
theorem hideN_bit {k : KeyX} (w : Nat) {i : Nat} (hi : i < k.n) : (hideN k w).testBit i = (w.testBit (sig k i) ^^ k.pad.toNat.testBit i) := by
  unfold hideN
  rw [Nat.testBit_xor, wN_bit]
  simp [hi]
theorem sigs_perm {k : KeyX} (hk : k.ok) : (List.range k.n).Perm ((List.range k.n).map (sig k)) := by
  have hn : ((List.range k.n).map (sig k)).Nodup := by
    rw [List.nodup_iff_pairwise_ne, List.pairwise_map]
    refine List.Pairwise.imp_of_mem ?_ (List.nodup_iff_pairwise_ne.1 (List.nodup_range (n := k.n)))
    intro a b ha hb hab h
    exact hab (sig_inj hk (List.mem_range.1 ha) (List.mem_range.1 hb) h)
  obtain ⟨R, hR⟩ := sub_perm _ (List.range k.n) hn fun v hv => by
    obtain ⟨i, hi, rfl⟩ := List.mem_map.1 hv
    exact List.mem_range.2 (sig_lt hk (List.mem_range.1 hi))
  have h := hR.length_eq
  simp only [List.length_range, List.length_append, List.length_map] at h
  obtain rfl : R = [] := List.eq_nil_of_length_eq_zero (by omega)
  simpa using hR
theorem sig_surj {k : KeyX} (hk : k.ok) {j : Nat} (hj : j < k.n) : ∃ i, i < k.n ∧ sig k i = j := by
  have h := (sigs_perm hk).mem_iff.1 (List.mem_range.2 hj)
  obtain ⟨i, hi, e⟩ := List.mem_map.1 h
  exact ⟨i, List.mem_range.1 hi, e⟩
theorem getD_set_ne {l : List Int} {i j : Nat} (x : Int) (h : i ≠ j) : (l.set i x).getD j 0 = l.getD j 0 := by
  simp [List.getD_eq_getElem?_getD, List.getElem?_set, h]
theorem getD_set_eq {l : List Int} {i : Nat} (x : Int) (h : i < l.length) : (l.set i x).getD i 0 = x := by
  simp [List.getD_eq_getElem?_getD, h]
theorem invTo_get {k : KeyX} (hk : k.ok) : ∀ {m : Nat}, m ≤ k.n → ∀ i, i < m → (invTo (ordI k.n k.perm) m).getD (sig k i) 0 = ofN i
  | 0, _, i, hi => by omega
  | m + 1, hm, i, hi => by
    have hl := invTo_length (ordI k.n k.perm) m
    rw [ordI_length] at hl
    have hs := sig_lt hk (i := m) (by omega)
    simp only [invTo]
    rw [ordI_get (by omega), toNat_ofN]
    by_cases e : i = m
    · subst e; exact getD_set_eq _ (by omega)
    · rw [getD_set_ne _ (fun h => e (sig_inj hk (by omega) (by omega) h).symm)]
      exact invTo_get hk (by omega) i (by omega)
/-- the places of the order that undoes an order -/
def tau (k : KeyX) (j : Nat) : Nat := at0 (invL k) j
theorem tau_sig {k : KeyX} (hk : k.ok) {i : Nat} (hi : i < k.n) : tau k (sig k i) = i := by
  unfold tau at0 invL
  rw [invTo_get hk (Nat.le_refl _) i hi, toNat_ofN]
theorem tau_lt {k : KeyX} (hk : k.ok) {j : Nat} (hj : j < k.n) : tau k j < k.n := by
  obtain ⟨i, hi, rfl⟩ := sig_surj hk hj
  rw [tau_sig hk hi]; exact hi
theorem sig_tau {k : KeyX} (hk : k.ok) {j : Nat} (hj : j < k.n) : sig k (tau k j) = j := by
  obtain ⟨i, hi, rfl⟩ := sig_surj hk hj
  rw [tau_sig hk hi]
theorem tau_inj {k : KeyX} (hk : k.ok) {i j : Nat} (hi : i < k.n) (hj : j < k.n) (h : tau k i = tau k j) : i = j := by
  rw [← sig_tau hk hi, ← sig_tau hk hj, h]
theorem list_nats {l : List Int} {n : Nat} {f : Nat → Nat} (hl : l.length = n) (h : ∀ i, i < n → l.getD i 0 = ofN (f i)) : l = nats ((List.range n).map f) := by
  apply List.ext_getElem?
  intro i
  by_cases hi : i < n
  · have := h i hi
    rw [List.getD_eq_getElem?_getD, List.getElem?_eq_getElem (by omega)] at this
    rw [List.getElem?_eq_getElem (by omega)]
    simp only [Option.getD_some] at this
    simp [nats, hi, this]
  · simp [nats, hi]; omega
theorem number_sig {k : KeyX} {f : Nat → Nat} {l : List Int} (hl : l.length = k.n) (h : ∀ i, i < k.n → l.getD i 0 = ofN (f i)) (hp : k.perm = ofN (numTo l k.n)) (hf : ∀ i, i < k.n → f i < k.n)
    (hi : ∀ i j, i < k.n → j < k.n → f i = f j → i = j) {i : Nat} (hin : i < k.n) : sig k i = f i := by
  have e := list_nats hl h
  have hn : ((List.range k.n).map f).Nodup := by
    rw [List.nodup_iff_pairwise_ne, List.pairwise_map]
    refine List.Pairwise.imp_of_mem ?_ (List.nodup_iff_pairwise_ne.1 (List.nodup_range (n := k.n)))
    intro a b ha hb hab h
    exact hab (hi a b (List.mem_range.1 ha) (List.mem_range.1 hb) h)
  unfold sig
  rw [hp, toNat_ofN, e, order_of_number (by simp) hn fun v hv => by
    obtain ⟨i, hi, rfl⟩ := List.mem_map.1 hv
    exact hf i (List.mem_range.1 hi)]
  simp [List.getD_eq_getElem?_getD, hin]
theorem invI_pad {k : KeyX} (hk : k.ok) : (invI k).pad = ofN (wN (fun i => k.pad.toNat.testBit (tau k i)) k.n) := by
  have h1 := hk.2.1
  have hp := pow16 h1
  have hpl := pad_lt hk
  show wordTo (pickL (bitsL k.n k.pad) (invL k)) k.n = _
  have := picked (n := k.n) (w := k.pad.toNat) (o := invL k) (s := tau k) (by omega) (by omega) (invL_length k) (fun i hi => at0_of (invL_range hk.1 hi).1) (fun i hi => tau_lt hk hi)
  rw [← ofN_of hk.2.2.2.2.1] at this
  exact this
theorem invI_sig {k : KeyX} (hk : k.ok) {i : Nat} (hi : i < k.n) : sig (invI k) i = tau k i :=
  number_sig (k := invI k) (f := tau k) (l := invL k) (invL_length k) (fun i hi => at0_of (invL_range hk.1 hi).1) rfl (fun i hi => tau_lt hk hi) (fun i j hi hj h => tau_inj hk hi hj h) hi
def renI (a b : KeyX) : KeyX := ⟨a.n, renPerm a b, renPad a b⟩
theorem ren_list {a b : KeyX} (ha : a.ok) (hb : b.ok) (hn : a.n = b.n) {i : Nat} (hi : i < a.n) :
    (pickL (ordI a.n (ofN (numTo (invL a) a.n))) (ordI a.n b.perm)).getD i 0 = ofN (tau a (sig b i)) := by
  have hsb : sig b i < a.n := by rw [hn]; exact sig_lt hb (by omega)
  have e1 : (ordI a.n b.perm).getD i 0 = ofN (sig b i) := by rw [hn]; exact ordI_get (k := b) (by omega)
  have e2 : (ordI a.n (ofN (numTo (invL a) a.n))).getD (sig b i) 0 = ofN (sig (invI a) (sig b i)) := ordI_get (k := invI a) hsb
  rw [pickL_get (by rw [ordI_length]; exact hi), e1, toNat_ofN, e2, invI_sig ha hsb]
theorem ren_len {a b : KeyX} : (pickL (ordI a.n (ofN (numTo (invL a) a.n))) (ordI a.n b.perm)).length = a.n := by rw [pickL_length, ordI_length]
theorem ren_sig {a b : KeyX} (ha : a.ok) (hb : b.ok) (hn : a.n = b.n) {i : Nat} (hi : i < a.n) : sig (renI a b) i = tau a (sig b i) :=
  number_sig (k := renI a b) (f := fun i => tau a (sig b i)) (l := pickL (ordI a.n (ofN (numTo (invL a) a.n))) (ordI a.n b.perm)) ren_len (fun i hi => ren_list ha hb hn hi) rfl (fun i hi => tau_lt ha (by rw [hn]; exact sig_lt hb (hn ▸ hi)))
    (fun i j hi hj h => sig_inj hb (hn ▸ hi) (hn ▸ hj) (tau_inj ha (by rw [hn]; exact sig_lt hb (hn ▸ hi)) (by rw [hn]; exact sig_lt hb (hn ▸ hj)) h)) hi
def padQ (a : KeyX) : Nat := wN (fun i => a.pad.toNat.testBit (tau a i)) a.n
theorem ren_pad {a b : KeyX} (ha : a.ok) (hb : b.ok) : renPad a b = ofN (hideN b (padQ a)) := by
  have h1 := ha.2.1
  have hp := pow16 h1
  have hl := wN_lt (fun i => a.pad.toNat.testBit (tau a i)) a.n
  show hideI b (invI a).pad = _
  rw [invI_pad ha, hideI_eq hb (by omega)]
  rfl
theorem ren_ok {a b : KeyX} (ha : a.ok) (hb : b.ok) (hn : a.n = b.n) : (renI a b).ok := by
  refine ⟨ha.1, ha.2.1, ofN_nonneg _, ?_, ?_⟩
  · show (renPerm a b).toNat < fact a.n
    unfold renPerm
    rw [toNat_ofN]
    have h := numTo_lt (pickL (ordI a.n (ofN (numTo (invL a) a.n))) (ordI a.n b.perm)) a.n (by rw [ren_len]; exact Nat.le_refl _)
    rw [ren_len, Nat.sub_self] at h
    simp only [fact, Nat.mul_one] at h
    exact h
  · show 0 ≤ renPad a b ∧ renPad a b < ofN (2 ^ a.n)
    rw [ren_pad ha hb, hn]
    exact ⟨ofN_nonneg _, ofN_lt.2 (hideN_lt hb _)⟩
/-- what is hidden under an old key, turned by the renewing key, is what the new key hides -/
theorem renewed {a b : KeyX} (ha : a.ok) (hb : b.ok) (hn : a.n = b.n) (x : Nat) : hideN (renI a b) (hideN a x) = hideN b x := by
  apply Nat.eq_of_testBit_eq
  intro i
  have hr := ren_ok ha hb hn
  by_cases hi : i < a.n
  · have hib : i < b.n := by omega
    have hsb : sig b i < a.n := by rw [hn]; exact sig_lt hb hib
    have hpd : (renI a b).pad.toNat.testBit i = (a.pad.toNat.testBit (tau a (sig b i)) ^^ b.pad.toNat.testBit i) := by
      show (renPad a b).toNat.testBit i = _
      rw [ren_pad ha hb, toNat_ofN, hideN_bit _ hib]
      unfold padQ
      rw [wN_bit]
      simp [hsb]
    rw [hideN_bit (k := renI a b) _ hi, ren_sig ha hb hn hi, hideN_bit (k := a) _ (tau_lt ha hsb), sig_tau ha hsb, hideN_bit _ hib, hpd]
    cases x.testBit (sig b i) <;> cases a.pad.toNat.testBit (tau a (sig b i)) <;> cases b.pad.toNat.testBit i <;> rfl
  · have h1 := hideN_lt hr (hideN a x)
    have h2 := hideN_lt hb x
    rw [Nat.testBit_lt_two_pow (Nat.lt_of_lt_of_le h1 (Nat.pow_le_pow_right (by decide) (show (renI a b).n ≤ i from by show a.n ≤ i; omega))), Nat.testBit_lt_two_pow (Nat.lt_of_lt_of_le h2 (Nat.pow_le_pow_right (by decide) (by omega)))]
theorem popN_sum (x : Nat) : ∀ n, popN x n = ((List.range n).map fun i => (x.testBit i).toNat).sum
  | 0 => rfl
  | n + 1 => by simp [popN, popN_sum x n, List.range_succ]
/-- hidden words are as far from each other as bare ones -/
theorem far_same {k : KeyX} (hk : k.ok) (x y : Nat) : popN (hideN k x ^^^ hideN k y) k.n = popN (x ^^^ y) k.n := by
  rw [popN_sum, popN_sum]
  have e : (List.range k.n).map (fun i => ((hideN k x ^^^ hideN k y).testBit i).toNat) = ((List.range k.n).map (sig k)).map (fun i => ((x ^^^ y).testBit i).toNat) := by
    rw [List.map_map]
    refine List.map_congr_left fun i hi => ?_
    have hi := List.mem_range.1 hi
    simp only [Function.comp, Nat.testBit_xor, hideN_bit _ hi]
    cases x.testBit (sig k i) <;> cases y.testBit (sig k i) <;> cases k.pad.toNat.testBit i <;> rfl
  rw [e]
  exact (((sigs_perm hk).map _).sum_nat).symm
end Go.Proofs.Ytlgmbpnlakjefaa
