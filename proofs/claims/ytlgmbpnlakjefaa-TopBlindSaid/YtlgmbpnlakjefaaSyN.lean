/- Soundness: make, append, clear, len, min, max. -/
import Derived.Test.YtlgmbpnlakjefaaSyM
namespace Go.Sy
set_option linter.unusedSimpArgs false
set_option linter.unusedVariables false
set_option linter.unusedSectionVars false

theorem wrap_small {n : Int} (h0 : 0 ≤ n) (h1 : n ≤ 140737488355328) : IntKind.i64.wrap n = n := by
  refine wrap_inR ?_
  simp [inR, IntKind.min, IntKind.max, IntKind.signed, IntKind.bits]
  omega
theorem zero_row {s : Sit} {sig : List Kd} {zs : List AV} {z : Array Value} (hf : fits sig 1 zs = true) (hz : VRels s zs z.toList) : z.size = sig.length ∧ (dsOf zs).length = sig.length ∧
    ∀ j k d, nth sig j = some k → nth (dsOf zs) j = some d → ∃ v, z[j]? = some v ∧ DRel s k d v := by
  obtain ⟨h1, h2, h3, h4⟩ := fits_rel 1 zs _ hf hz
  have hzl : zs.length = sig.length := by rw [← hz.length, h1]; simp
  have hrow : rowsOf sig.length 1 zs = [dsOf zs] := by
    simp only [rowsOf]
    rw [List.take_of_length_le (by omega)]
  rw [hrow] at h3 h4
  refine ⟨by simpa using h1, h3 0 _ rfl, fun j k d hk hd => ?_⟩
  obtain ⟨v, hv, hr⟩ := h4 0 j _ k d rfl hk hd
  exact ⟨v, by simpa using hv, hr⟩
theorem rep_rows {s : Sit} {sig : List Kd} {zs : List AV} {z : Array Value} (hf : fits sig 1 zs = true) (hz : VRels s zs z.toList) (n : Nat) {g : Nat → Option Value}
    (hg : ∀ i j, i < n → j < sig.length → g (i * sig.length + j) = z[j]?) : DIn s sig g (List.replicate n (dsOf zs)) := by
  obtain ⟨h1, h2, h3⟩ := zero_row hf hz
  have hrep : ∀ i r, nth (List.replicate n (dsOf zs)) i = some r → i < n ∧ r = dsOf zs := by
    intro i r hr
    have := nth_some_lt hr
    rw [nth_eq, List.getElem?_replicate] at hr
    split at hr
    · simp at hr; exact ⟨‹_›, hr.symm⟩
    · cases hr
  refine ⟨fun i r hr => ?_, fun i j r k d hr hk hd => ?_⟩
  · obtain ⟨_, rfl⟩ := hrep i r hr; exact h2
  · obtain ⟨hi, rfl⟩ := hrep i r hr
    obtain ⟨v, hv, hvr⟩ := h3 j k d hk hd
    exact ⟨v, by rw [hg i j hi (nth_some_lt hk)]; exact hv, hvr⟩
theorem mod_row {m i j : Nat} (hj : j < m) : (i * m + j) % m = j := by
  rw [Nat.add_comm, Nat.add_mul_mod_self_right, Nat.mod_eq_of_lt hj]
section
variable {P : Program} {T : Tab} (hT : TabOk P T) {s : Sit} {h : Heap} (hh : HRel s h) {K : AV → Heap → List Tch → Prop}
include hT hh
theorem makeSlice_ok {t : Nat} {l c : AV} {u v : Value} (hb : eMakeSlice T t l c h fun v h' => K v h' []) (hl : VRel s l u) (hc : VRel s c v) : EffOk P s h (do pure (Next.value (← Instr.makeSlice t u v))) K := by
  unfold eMakeSlice ti at hb
  split at hb
  · rename_i d hd
    obtain ⟨desc, hu, hkd⟩ := (hT t d hd).under
    split at hb
    · rename_i e hf
      rw [hf] at hkd
      simp only [KOk] at hkd
      subst hkd
      split at hb
      · rename_i de hde
        have hke := hT e de hde
        obtain ⟨i, z, hi, his, hib, hzi, hzs, hzr, hza, hzn⟩ := hke.info
        split at hb
        · rename_i sig hsig
          split at hb
          · rename_i hck
            split at hck
            · rename_i hsz
              split at hck
              · rename_i h0
                split at hck
                · rename_i hb0
                  have hsz := Nat.eq_of_beq_eq_true hsz
                  have h0 := Nat.le_of_ble_eq_true h0
                  have hb0 := Nat.le_of_ble_eq_true hb0
                  rw [len_eq] at hsz h0
                  split at hb
                  · rename_i kl a
                    split at hb
                    · rename_i kc b
                      cases hb with
                      | mk hab hb =>
                        obtain ⟨ha0, hab, hbb⟩ := hab
                        simp only [VRel] at hl hc
                        subst hl; subst hc
                        unfold maxBytes at hbb
                        have hb47 : b.v ≤ 140737488355328 := by
                          have : b.v * 1 ≤ b.v * (de.bytes : Int) := Int.mul_le_mul_of_nonneg_left (by omega) (by omega)
                          omega
                        have hwa : IntKind.i64.wrap a.v = a.v := wrap_small ha0 (by omega)
                        have hwb : IntKind.i64.wrap b.v = b.v := wrap_small (by omega) hb47
                        have hrun : (Instr.makeSlice t (.int kl a.v) (.int kc b.v)).run P s.w = .ok (.slice (some ⟨s.w.heap.size, 0, none⟩) a.v.toNat b.v.toNat) (s.w.alloc (.cells ((Array.range (b.v.toNat * de.size)).map (z.cells[· % z.cells.size]!)) e)) := by
                          have hcond : ¬ ((decide (b.v < 0) || decide ((de.bytes : Int) * b.v > 2 ^ 48) || decide (a.v < 0) || decide (a.v > b.v)) = true) := by
                            have : (de.bytes : Int) * b.v = b.v * de.bytes := Int.mul_comm _ _
                            simp
                            omega
                          have h1 : ¬ (b.v < 0) := by omega
                          have h2 : ¬ (a.v < 0) := by omega
                          have h3 : ¬ (b.v < a.v) := by omega
                          have h4 : ¬ (281474976710656 < (de.bytes : Int) * b.v) := by
                            have : (de.bytes : Int) * b.v = b.v * de.bytes := Int.mul_comm _ _
                            omega
                          by_cases hn : b.v.toNat * de.size = 0
                          · simp [Instr.makeSlice, run_under hu, asInt, asIntOf, typeInfo, hi, hib, sizeOf, his, hwa, hwb, h1, h2, h3, h4, hn, newRow, zeroValue, hzi, Array.range_zero']
                          · simp [Instr.makeSlice, run_under hu, asInt, asIntOf, typeInfo, hi, hib, sizeOf, his, hwa, hwb, h1, h2, h3, h4, hn, newRow, zeroValue, hzi]
                        refine new_ok hT hh (mkv := fun q => .slice (some q) a.v.toNat b.v.toNat) (c := .rows sig _) hrun ⟨h0, ?_⟩ ?_ hb
                        · refine rep_rows (s := s) hck (hzr.rels s) _ fun i' j hi' hj => ?_
                          have hlt : i' * sig.length + j < b.v.toNat * de.size := by
                            have : (i' + 1) * sig.length ≤ b.v.toNat * sig.length := Nat.mul_le_mul_right _ (by omega)
                            rw [Nat.succ_mul] at this
                            rw [← hsz]; omega
                          have hzsz : z.cells.size = sig.length := by rw [hzs, hsz]
                          have hj' : j < z.cells.size := by omega
                          have hm : (i' * sig.length + j) % z.cells.size = j := by rw [hzsz]; exact mod_row hj
                          simp [hlt, hm, hj']
                        · simp only [szOf]
                          have := new_slice hT hh (arr := (Array.range (b.v.toNat * de.size)).map (z.cells[· % z.cells.size]!)) (t := e) (l := fun _ => []) (n := natOf a) (c := natOf b) (cap := b.v.toNat) (ex := true) h0
                            (by rw [natOf_v, natOf_v]; omega) (by rw [natOf_v]; exact Nat.le_refl _) (fun _ => by rw [natOf_v]) (by simp [hsz])
                          rw [natOf_v] at this
                          rw [hsz] at this ⊢
                          exact this
                    · exact hb.elim
                  · exact hb.elim
                · cases hck
              · cases hck
            · cases hck
          · exact hb.elim
        · exact hb.elim
      · exact hb.elim
    · exact hb.elim
  · exact hb.elim

/-! ### the rows that a slice shows -/
/-- the cells of a slice's rows, in memory -/
theorem rowsIn_ok {x : AV} {u : Value} {K : List Kd → (Unit → List (List D)) → NX → Prop} {N : Unit → Prop} (hx : VRel s x u) (hr : rowsIn h x K N) :
    (x = .nils ∧ N ()) ∨ ∃ b i z n c ex sig l o, x = .sl b i (.l 0) z n c ex ∧ nth h b = some (some o) ∧ o.c = .rows sig l ∧ sig.length = z ∧ i.v + n.v ≤ (l ()).length ∧ K sig (fun _ => ((l ()).drop i.v).take n.v) n := by
  unfold rowsIn at hr
  split at hr
  · exact .inl ⟨rfl, hr⟩
  · rename_i b i f z n c ex
    split at hr
    · rename_i o ho
      split at hr
      · rename_i sig l hc
        split at hr
        · split at hr
          · rename_i hz
            obtain ⟨hle, hr⟩ := leN_ok hr
            rw [nAdd_v] at hle
            have hz := Nat.eq_of_beq_eq_true hz
            rw [len_eq] at hz
            exact .inr ⟨b, i, z, n, c, ex, sig, l, o, rfl, ho, hc, hz, hle, hr⟩
          · exact hr.elim
        · exact hr.elim
      · exact hr.elim
    · exact hr.elim
  · exact hr.elim
/-- some rows of an object, as a list of values -/
theorem rows_vals {b : Nat} {o : Obj} {sig : List Kd} {l : Unit → List (List D)} (ho : nth h b = some (some o)) (hc : o.c = .rows sig l) {i n : Nat} (hle : i + n ≤ (l ()).length) {ad : Addr} (hp : s.place b i 0 ad) :
    ∃ vs : List Value, vs.length = n * sig.length ∧ (∀ (j : Nat) v, vs[j]? = some v → s.w.cell? ⟨ad.block, ad.off + j, none⟩ = some v) ∧ DIn s sig (fun j => vs[j]?) (((l ()).drop i).take n) ∧ (∀ x ∈ vs, x.oneCell' = true) := by
  obtain ⟨a0, sz, hb, hsp, had, hfl, hcont⟩ := obj_at hT hh hp ho
  rw [hc] at hcont
  obtain ⟨rfl, h0, hcont⟩ := hcont
  obtain ⟨vs, e1, e2⟩ := pickAll (g := s.mem a0) (n * sig.length) (i * sig.length) (fun j hj => by
    refine hcont.all h0 (j := i * sig.length + j) ?_
    have : (i + n) * sig.length ≤ (l ()).length * sig.length := Nat.mul_le_mul_right _ hle
    rw [Nat.add_mul] at this
    omega)
  have hd : DIn s sig (fun j => vs[j]?) (((l ()).drop i).take n) := by
    have key : ∀ i' r, nth (((l ()).drop i).take n) i' = some r → i' < n ∧ nth (l ()) (i + i') = some r := by
      intro i' r hr
      rw [nth_eq, List.getElem?_take] at hr
      split at hr
      · rw [List.getElem?_drop, ← nth_eq] at hr; exact ⟨‹_›, hr⟩
      · cases hr
    refine ⟨fun i' r hr => hcont.1 _ r (key i' r hr).2, fun i' j r k d hr hk hd => ?_⟩
    obtain ⟨hi', hr'⟩ := key i' r hr
    obtain ⟨v, hv, hvr⟩ := hcont.2 (i + i') j r k d hr' hk hd
    refine ⟨v, ?_, hvr⟩
    have hj := nth_some_lt hk
    have : (i' + 1) * sig.length ≤ n * sig.length := Nat.mul_le_mul_right _ hi'
    rw [Nat.succ_mul] at this
    show vs[i' * sig.length + j]? = some v
    rw [e2 _ (by omega), show i * sig.length + (i' * sig.length + j) = (i + i') * sig.length + j by rw [Nat.add_mul]; omega]
    exact hv
  refine ⟨vs, e1, fun j v hj => ?_, hd, fun x hx => ?_⟩
  · have hjl : j < n * sig.length := by rw [← e1]; exact (List.getElem?_eq_some_iff.1 hj).1
    rw [e2 j hjl] at hj
    subst had
    simpa [Sit.mem, Nat.add_assoc] using hj
  · obtain ⟨q, hq⟩ := List.mem_iff_getElem?.1 hx
    have hql : q < n * sig.length := by rw [← e1]; exact (List.getElem?_eq_some_iff.1 hq).1
    have hlen : (((l ()).drop i).take n).length = n := by simp; omega
    have hqr : q / sig.length < (((l ()).drop i).take n).length := by rw [hlen]; exact (Nat.div_lt_iff_lt_mul h0).2 hql
    obtain ⟨r, hr⟩ := nth_of_lt hqr
    obtain ⟨k, hk2⟩ := nth_of_lt (l := sig) (i := q % sig.length) (Nat.mod_lt _ h0)
    obtain ⟨dd, hdd⟩ := nth_of_lt (l := r) (i := q % sig.length) (by rw [hd.1 _ r hr]; exact Nat.mod_lt _ h0)
    obtain ⟨v, hv, hvr⟩ := hd.2 _ _ r k dd hr hk2 hdd
    simp only [Nat.div_add_mod', hq] at hv
    simp at hv; subst hv
    cases hvr <;> rfl
omit hT hh in
theorem cells_block {w : World} {b o : Nat} {v : Value} (h : w.cell? ⟨b, o, none⟩ = some v) : ∃ c e f, w.heap[b]? = some (.cells c e f) := by
  unfold World.cell? at h
  simp only at h
  split at h
  · rename_i c e f hb
    exact ⟨c, e, f, hb⟩
  · cases h
end
end Go.Sy
