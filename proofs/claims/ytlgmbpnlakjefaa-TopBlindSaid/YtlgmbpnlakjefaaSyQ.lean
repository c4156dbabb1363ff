/- Soundness: clear, len, min, max; the builtins. -/
import Derived.Test.YtlgmbpnlakjefaaSyP
namespace Go.Sy
set_option linter.unusedSimpArgs false
set_option linter.unusedVariables false
set_option linter.unusedSectionVars false
section
variable {P : Program} {T : Tab} (hT : TabOk P T) {s : Sit} {h : Heap} (hh : HRel s h) {K : AV → Heap → List Tch → Prop}
include hT hh
theorem replicate_zero {α : Type} (l : List α) (i : Nat) (x : α) : l.take i ++ List.replicate 0 x ++ l.drop (i + 0) = l := by simp
theorem clear_ok {t e : Nat} {dt de : TD} {ty : TypeId} (hd : T t = some dt) (hk : dt.k = .slice e) (hde : T e = some de) {x : AV} {u : Value} (ha : eClear de x h K) (hx : VRel s x u) :
    EffOk P s h (do pure (Next.value (← Builtin.clear_ #[t] ty #[u]))) K := by
  obtain ⟨desc, hu, hkd⟩ := (hT t dt hd).under
  rw [hk] at hkd; simp only [KOk] at hkd; subst hkd
  have hke := hT e de hde
  obtain ⟨i0, z0, hi, his, hib, hzi, hzs, hzr, hza, hzn⟩ := hke.info
  unfold eClear at ha
  have hnil : ∀ (a : Option Addr) (c : Nat) (w : World), (Builtin.clear_ #[t] ty #[.slice a 0 c]).run P w = .ok (.tuple #[]) w := fun a c w => by
    cases a <;> simp [Builtin.clear_, run_underlying hu]
  split at ha
  · simp only [VRel] at hx
    subst hx
    exact eff_val (s' := s) (hnil _ _ _) (Ev.refl s) (prefix_refl' _) hh (undef_rel s) (fun _ _ hl => ⟨hl, fun _ _ => rfl⟩) ha
  · rename_i b i f z n c ex
    split at ha
    · rename_i o ho
      split at ha
      · rename_i hm
        split at ha
        · rename_i sig l hc
          split at ha
          · split at ha
            · rename_i hsig
              split at ha
              · rename_i hck
                split at hck
                · rename_i hz
                  split at hck
                  · rename_i hsz
                    have hz := Nat.eq_of_beq_eq_true hz
                    have hsz := Nat.eq_of_beq_eq_true hsz
                    rw [len_eq] at hz hsz
                    subst hz
                    obtain ⟨hle, ha⟩ := leN_ok ha
                    rw [nAdd_v] at hle
                    have hle' : i.v + n.v ≤ (l ()).length := hle
                    have hx' := hx
                    simp only [VRel, zv] at hx'
                    obtain ⟨a, cap, rfl, e1, e2, e3, e4, e5, e6⟩ := hx'
                    by_cases hn : n.v = 0
                    · rw [hn]
                      refine eff_val (s' := s) (hnil _ _ _) (Ev.refl s) (prefix_refl' _) (same_ok (l := l) hh ho hm hc ?_) (undef_rel s) (fun tt _ hl => ⟨write_live ho _ hl, fun _ _ => rfl⟩) ha
                      simp [hn]
                    · rcases e6 with e6 | ⟨ad, rfl, hp, ts, m, hsh, hsm⟩
                      · omega
                      · obtain ⟨a0, sz, hb0, hsp0, had, hfl, hcont⟩ := obj_at hT hh hp ho
                        obtain ⟨_, hb1, h0sig⟩ := base_rows hT hh ho hc
                        rw [hb0] at hb1
                        simp at hb1
                        obtain ⟨_, rfl⟩ := hb1
                        obtain ⟨hown, hfro⟩ := flags_own hT hh hm hfl
                        have hab : ad.block = a0.block := by rw [had]
                        have hoff : ad.off = a0.off + i.v * sig.length := by rw [had]; rfl
                        have hzsz : z0.cells.size = sig.length := by rw [hzs, hsz]
                        have hzl : (Builtin.zeroCells z0.cells n.v).toList.length = n.v * sig.length := by simp [Builtin.zeroCells, hzsz]
                        have hcell : ∀ j, j < (Builtin.zeroCells z0.cells n.v).toList.length → (s.w.cell? ⟨a0.block, ad.off + j, none⟩).isSome = true := fun j hj => by
                          rw [← hab]
                          refine shape_cell hsh ?_
                          rw [hzl] at hj
                          have : n.v * sig.length ≤ cap * sig.length := Nat.mul_le_mul_right _ (by omega)
                          omega
                        have hrow : DIn s sig (fun j => (Builtin.zeroCells z0.cells n.v).toList[j]?) (List.replicate n.v (dsOf de.zero)) := by
                          refine rep_rows hck (hzr.rels s) _ fun i' j hi' hj => ?_
                          have hlt : i' * sig.length + j < n.v * sig.length := by
                            have : (i' + 1) * sig.length ≤ n.v * sig.length := Nat.mul_le_mul_right _ (by omega)
                            rw [Nat.succ_mul] at this
                            omega
                          have hm2 : (i' * sig.length + j) % sig.length = j := mod_row hj
                          simp only [Builtin.zeroCells, hzsz, Array.getElem?_toList]
                          simp [hlt, hm2, hzsz, hj]
                        have hone : ∀ x ∈ (Builtin.zeroCells z0.cells n.v).toList, x.oneCell' = true := by
                          intro x hx
                          obtain ⟨q, hq⟩ := List.mem_iff_getElem?.1 hx
                          have hql : q < n.v * sig.length := by rw [← hzl]; exact (List.getElem?_eq_some_iff.1 hq).1
                          have hqr : q / sig.length < (List.replicate n.v (dsOf de.zero)).length := by rw [List.length_replicate]; exact (Nat.div_lt_iff_lt_mul h0sig).2 hql
                          obtain ⟨r, hr⟩ := nth_of_lt hqr
                          obtain ⟨k, hk2⟩ := nth_of_lt (l := sig) (i := q % sig.length) (Nat.mod_lt _ h0sig)
                          obtain ⟨dd, hdd⟩ := nth_of_lt (l := r) (i := q % sig.length) (by rw [hrow.1 _ r hr]; exact Nat.mod_lt _ h0sig)
                          obtain ⟨v, hv, hvr⟩ := hrow.2 _ _ r k dd hr hk2 hdd
                          simp only [Nat.div_add_mod', hq] at hv
                          simp at hv; subst hv
                          cases hvr <;> rfl
                        have hst := run_storeCells_cells (P := P) a0.block ad.off (Builtin.zeroCells z0.cells n.v).toList 0 s.w (fun j hj => by simpa using hcell j hj) (fun j _ => hfro _) hone
                        simp only [Nat.add_zero] at hst
                        have hr : (Builtin.clear_ #[t] ty #[.slice (some ad) n.v cap]).run P s.w = .ok (.tuple #[]) (s.write a0.block ad.off (Builtin.zeroCells z0.cells n.v).toList).w := by
                          have had' : ad = ⟨a0.block, ad.off, none⟩ := by rw [had]
                          rw [← had'] at hst
                          obtain ⟨nn, hnn⟩ : ∃ nn, n.v = nn + 1 := ⟨n.v - 1, by omega⟩
                          rw [hnn] at hst ⊢
                          simp [Builtin.clear_, run_underlying hu, zeroValue, typeInfo, hi, hzi, hst, Sit.write]
                        refine eff_val (s' := s.write a0.block ad.off _) hr (write_ev hown _ _) (prefix_refl' _) (write_ok hh ho hm hb0 (c := .rows sig _) ?_) (undef_rel _) (write_un hh ho hm hb0 _ _ (.inl (by simp))) ha
                        have := rows_write hh ho hm hc hb0 hrow (by rw [hzl, List.length_replicate]) (by omega : i.v ≤ (l ()).length) (off := ad.off) hoff hcell
                        rw [List.length_replicate] at this
                        exact this
                  · cases hck
                · cases hck
              · exact ha.elim
            · exact ha.elim
          · exact ha.elim
        · exact ha.elim
      · exact ha.elim
    · exact ha.elim
  · exact ha.elim
omit hh in
theorem len_ok {t : Nat} {ty : TypeId} {x : AV} {u : Value} {K : AV → Prop} (ha : eLen T t x K) (hx : VRel s x u) : ValOk P s (Builtin.len_ #[t] ty #[u]) K := by
  unfold eLen ti at ha
  split at ha
  · rename_i d hd
    obtain ⟨desc, hu, hkd⟩ := (hT t d hd).under
    split at ha
    · rename_i e hk
      rw [hk] at hkd; simp only [KOk] at hkd; subst hkd
      split at ha
      · simp only [VRel] at hx
        subst hx
        exact ⟨_, .int .i64 0, fun w => by simp [Builtin.len_, run_underlying hu, goInt], by simp [VRel, IX.v], ha⟩
      · simp only [VRel] at hx
        obtain ⟨a, cap, rfl, _⟩ := hx
        exact ⟨_, _, fun w => by simp only [Builtin.len_, Sem.run_bind]; simp [run_underlying hu]; rfl, by simp only [VRel, goInt, ofNat_v], ha⟩
      · exact ha.elim
    · rename_i n e hk
      rw [hk] at hkd; simp only [KOk] at hkd; subst hkd
      exact ⟨_, .int .i64 n, fun w => by simp [Builtin.len_, run_underlying hu, goInt], by simp [VRel, IX.v], ha⟩
    · rename_i e hk
      rw [hk] at hkd; simp only [KOk] at hkd; subst hkd
      split at ha
      · rename_i de hde
        obtain ⟨desc', hu', hkd'⟩ := (hT e de hde).under
        split at ha
        · rename_i n e' hk'
          rw [hk'] at hkd'; simp only [KOk] at hkd'; subst hkd'
          exact ⟨_, .int .i64 n, fun w => by simp [Builtin.len_, run_underlying hu, run_underlying hu', goInt], by simp [VRel, IX.v], ha⟩
        · exact ha.elim
      · exact ha.elim
    · exact ha.elim
  · exact ha.elim
end
theorem minmax_fold {P : Program} {s : Sit} (gt : Bool) (f : Value → Value → Sem Value)
    (hf : ∀ k x y w, (f (.int k x) (.int k y)).run P w = .ok (.int k (mm gt x y)) w) {K : AV → Prop} :
    ∀ (m : Nat) (xs : List AV) (us : List Value), xs.length = m → VRels s xs us → eMinMax gt xs K → ∃ u r, us = u :: r ∧ ValOk P s (r.foldlM f u) K := by
  intro m
  induction m using Nat.strongRecOn with
  | ind m ih =>
    intro xs us hm hr hk
    unfold eMinMax at hk
    split at hk
    · exact hk.elim
    · rename_i k a
      simp only [VRels, VRel] at hr
      obtain ⟨v, r, rfl, rfl, rfl⟩ := hr
      exact ⟨_, _, rfl, .int k a, .int k a.v, fun w => by simp, by simp only [VRel], hk⟩
    · rename_i k a k' b l
      split at hk
      · rename_i hkk
        obtain rfl := kEq_eq hkk
        simp only [VRels, VRel] at hr
        obtain ⟨_, _, rfl, rfl, _, r, rfl, rfl, hr⟩ := hr
        obtain ⟨u, r', e, h1⟩ := ih (l.length + 1) (by simp at hm; omega) (.int k (ix2 _ a b) :: l) (.int k (mm gt a.v b.v) :: r) (by simp)
          (by simp only [VRels, VRel]; exact ⟨_, _, rfl, by rw [ix2_v]; rfl, hr⟩) hk
        simp at e
        obtain ⟨rfl, rfl⟩ := e
        refine ⟨_, _, rfl, ?_⟩
        obtain ⟨av, v, g1, g2, g3⟩ := h1
        exact ⟨av, v, fun w => by rw [List.foldlM_cons]; simp only [Sem.run_bind, hf, Result.andThen_ok]; exact g1 w, g2, g3⟩
      · exact hk.elim
    · exact hk.elim
section
variable {P : Program} {T : Tab} (hT : TabOk P T) {s : Sit} {h : Heap} (hh : HRel s h) {K : AV → Heap → List Tch → Prop}
include hT hh
omit hT in
theorem eff_pure {x : Sem Value} (hv : ValOk P s x fun v => K v h []) : EffOk P s h (do pure (Next.value (← x))) K := by
  obtain ⟨av, v, h1, h2, h3⟩ := hv
  exact eff_val (s' := s) (h1 _) (Ev.refl s) (prefix_refl' _) hh h2 (fun _ _ hl => ⟨hl, fun _ _ => rfl⟩) h3
theorem builtin_ok {b : Builtin} {ts : Array Nat} {ty : TypeId} {cs : Array Bool} {xs : List AV} {us : Array Value} (ha : eBuiltin T b ts.toList xs h K) (hx : VRels s xs us.toList) :
    EffOk P s h (builtin b ts ty cs us) K := by
  obtain ⟨ts⟩ := ts
  obtain ⟨us⟩ := us
  simp only at ha hx
  unfold eBuiltin at ha
  split at ha
  · split at ha
    · split at ha
      · simp only [VRels] at hx
        obtain ⟨v, _, rfl, hx, rfl⟩ := hx
        exact eff_pure hh (len_ok hT ha hx)
      · exact ha.elim
    · exact ha.elim
  · obtain ⟨u, r, rfl, h1⟩ := minmax_fold (P := P) true Builtin.max2 (fun k x y w => by simp [Builtin.max2, mm]) _ xs us rfl hx ha
    exact eff_pure hh (x := Builtin.max_ _ ty _) (by simpa [Builtin.max_] using h1)
  · obtain ⟨u, r, rfl, h1⟩ := minmax_fold (P := P) false Builtin.min2 (fun k x y w => by simp [Builtin.min2, mm]) _ xs us rfl hx ha
    exact eff_pure hh (x := Builtin.min_ _ ty _) (by simpa [Builtin.min_] using h1)
  · split at ha
    · split at ha
      · unfold ti at ha
        split at ha
        · rename_i d hd
          split at ha
          · rename_i e hk
            split at ha
            · rename_i d' hd'
              split at ha
              · rename_i e' hk'
                split at ha
                · rename_i de hde
                  simp only [VRels] at hx
                  obtain ⟨_, _, rfl, hx1, _, _, rfl, hx2, rfl⟩ := hx
                  exact append_ok hT hh hd hk hd' hk' hde ha hx1 hx2
                · exact ha.elim
              · exact ha.elim
            · exact ha.elim
          · exact ha.elim
        · exact ha.elim
      · exact ha.elim
    · exact ha.elim
  · split at ha
    · split at ha
      · unfold ti at ha
        split at ha
        · rename_i d hd
          split at ha
          · rename_i e hk
            split at ha
            · rename_i de hde
              simp only [VRels] at hx
              obtain ⟨_, _, rfl, hx1, rfl⟩ := hx
              exact clear_ok hT hh hd hk hde ha hx1
            · exact ha.elim
          · exact ha.elim
        · exact ha.elim
      · exact ha.elim
    · exact ha.elim
  · exact ha.elim
end
end Go.Sy
