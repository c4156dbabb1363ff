/- Soundness: append, clear. -/
import Derived.Test.YtlgmbpnlakjefaaSyO
namespace Go.Sy
set_option linter.unusedSimpArgs false
set_option linter.unusedVariables false
set_option linter.unusedSectionVars false
section
variable {P : Program} {T : Tab} (hT : TabOk P T) {s : Sit} {h : Heap} (hh : HRel s h) {K : AV → Heap → List Tch → Prop}
include hT hh
omit hT hh in
theorem eff_val {x : Sem Value} {s' : Sit} {av : AV} {v : Value} {h' : Heap} {tc : List Tch} (hr : x.run P s.w = .ok v s'.w) (hE : Ev s s') (hp : s.base <+: s'.base) (hh' : HRel s' h') (hv : VRel s' av v) (hu : Un s s' h h' tc) (hk : K av h' tc) :
    EffOk P s h (do pure (Next.value (← x))) K := ⟨s', av, v, h', tc, _, by simp only [Sem.run_bind, hr, Result.andThen_ok]; rfl, .inl rfl, hE, hp, hh', hv, hu, hk⟩
theorem append_ok {t t' e e' : Nat} {dt dt' de : TD} {ty : TypeId} (hd : T t = some dt) (hk : dt.k = .slice e) (hd' : T t' = some dt') (hk' : dt'.k = .slice e') (hde : T e = some de) {x y : AV} {u v : Value} (ha : eAppend de x y h K) (hx : VRel s x u) (hy : VRel s y v) :
    EffOk P s h (do pure (Next.value (← Builtin.append_ #[t, t'] ty #[u, v]))) K := by
  obtain ⟨desc, hu, hkd⟩ := (hT t dt hd).under
  rw [hk] at hkd; simp only [KOk] at hkd; subst hkd
  obtain ⟨desc', hu', hkd'⟩ := (hT t' dt' hd').under
  rw [hk'] at hkd'; simp only [KOk] at hkd'; subst hkd'
  have hke := hT e de hde
  obtain ⟨i0, z0, hi, his, hib, hzi, hzs, hzr, hza, hzn⟩ := hke.info
  unfold eAppend at ha
  -- nothing happens
  have same : (∀ w, (Builtin.append_ #[t, t'] ty #[u, v]).run P w = .ok u w) → K x h [] → EffOk P s h (do pure (Next.value (← Builtin.append_ #[t, t'] ty #[u, v]))) K := fun hr hK =>
    eff_val (hr s.w) (Ev.refl s) (prefix_refl' _) hh hx (fun _ _ hl => ⟨hl, fun _ _ => rfl⟩) hK
  have first0 : ∀ (sz : Nat) (w : World) (q : Option Addr) (cp : Nat), (Builtin.firstCells sz 0 (.slice q 0 cp)).run P w = .ok #[] w := fun sz w q cp => by
    cases q <;> simp [Builtin.firstCells, loadCells, loadCellsFrom]
  have R := rowsIn_ok hT hh hy ha
  clear ha
  rcases R with ⟨rfl, ha⟩ | ⟨b2, i2, z2, n2, c2, ex2, sig, l2, o2, rfl, ho2, hc2, hz2, hle2, ha⟩
  · have hy' := hy
    simp only [VRel] at hy'
    subst hy'
    split at ha
    · simp only [VRel] at hx
      subst hx
      refine same (fun w => ?_) ha
      exact run_append2_room w t t' ty e e' i0 hu hu' hi none 0 0 none 0 0 [] (first0 _ _ _ _) (Nat.le_refl _) w rfl
    · have hx' := hx
      simp only [VRel] at hx'
      obtain ⟨a, cap, rfl, e1, e2, e3, e4, e5, e6⟩ := hx'
      refine same (fun w => ?_) ha
      rename_i n c ex
      have := run_append2_room (P := P) w t t' ty e e' i0 hu hu' hi a n.v cap none 0 0 [] (first0 _ _ _ _) (by omega) w (by cases a <;> simp [storeCells])
      simpa using this
    · exact ha.elim
  · obtain ⟨au, capu, news, rfl, v1, v2, v3, v4, v5, v6, v7, v8⟩ := first_ok hT hh hy ho2 hc2 hz2 hle2
    split at ha
    · exact ha.elim
    · split at ha
      · exact ha.elim
      · rename_i hsz
        have hsz := Nat.eq_of_beq_eq_true hsz
        rw [len_eq] at hsz
        have hisz : i0.size = z2 := by rw [his, hsz, hz2]
        rw [← hisz] at v4 v1
        obtain ⟨_, _, h0sig⟩ := base_rows hT hh ho2 hc2
        have hxl : (((l2 ()).drop i2.v).take n2.v).length = n2.v := by simp; omega
        have hn1 : news.length = (((l2 ()).drop i2.v).take n2.v).length * sig.length := by rw [v1, hxl, hisz, hz2]
        split at ha
        · exact ha.elim
        · rename_i hbpos
          have hbpos := Nat.le_of_ble_eq_true hbpos
          have h47 : ∀ n : Nat, n * de.bytes ≤ maxBytes → n ≤ 140737488355328 := fun n hn => by
            unfold maxBytes at hn
            have : n * 1 ≤ n * de.bytes := Nat.mul_le_mul_left _ (by omega)
            omega
          -- over to new memory
          have grow : ∀ (base : Option Addr) (sLen sCap : Nat) (olds : List Value) (r1 : List (List D)) (hk : Heap) (tc : List Tch) (nn : NX), HRel s hk → Un s s h hk tc → nn.v = sLen + n2.v →
              olds.length = r1.length * sig.length → r1.length = sLen → DIn s sig (fun j => olds[j]?) r1 → (∀ w : World, (∀ x, w.cell? x = s.w.cell? x) → (Builtin.firstCells i0.size sLen (.slice base sLen sCap)).run P w = .ok olds.toArray w) →
              sCap < sLen + n2.v → (sLen + n2.v) * de.bytes ≤ maxBytes → ∀ l : Unit → List (List D), l () = r1 ++ ((l2 ()).drop i2.v).take n2.v →
              K (.sl (len hk) (.l 0) (.l 0) sig.length nn nn false) (hk ++ [some ⟨true, .rows sig l⟩]) tc →
              EffOk P s h (do pure (Next.value (← Builtin.append_ #[t, t'] ty #[.slice base sLen sCap, .slice au n2.v capu]))) K := by
            intro base sLen sCap olds r1 hk tc nn hhk hun hnn ho1 ho2' hdo hfo hg hbytes l hl hK
            have h47' := h47 _ hbytes
            have hr := run_append2_grow (P := P) s.w t t' ty e e' i0 z0 hu hu' hi hzi base sLen sCap olds (hfo s.w.drew fun _ => rfl) au n2.v capu news (v4 s.w.drew fun _ => rfl) hg (by omega) (growslice_fits hg (by rw [hib]; exact hbytes))
            have hgc : sLen + n2.v ≤ grownCap s.w (sLen + n2.v) sCap e := by unfold grownCap Question.cut; exact Nat.le_add_right _ _
            have hrel := grow_ok (drew_ok hhk) (arr := olds.toArray ++ news.toArray ++ Builtin.zeroCells z0.cells (grownCap s.w (sLen + n2.v) sCap e - (sLen + n2.v))) (c := .rows sig l) e ⟨h0sig, by
              rw [hl]
              have := (hdo.cat (rest := (Builtin.zeroCells z0.cells (grownCap s.w (sLen + n2.v) sCap e - (sLen + n2.v))).toList) ho1 v2)
              refine DIn.mono (drew_ev s) this fun n => ?_
              simp only [← Array.getElem?_toList]
              simp⟩
            refine eff_val (tc := tc) (s' := s.drew.grow _ e (szOf (.rows sig l))) hr ((drew_ev s).trans (grow_ev _ _ _ _)) ⟨_, rfl⟩ hrel ?_ ?_ hK
            · refine grown_slice hT hh (drew_ok hhk) hnn h0sig hgc ?_
              have hzc : (Builtin.zeroCells z0.cells (grownCap s.w (sLen + n2.v) sCap e - (sLen + n2.v))).size = (grownCap s.w (sLen + n2.v) sCap e - (sLen + n2.v)) * sig.length := by
                simp [Builtin.zeroCells, hzs, hsz]
              simp only [Array.size_append, hzc, List.size_toArray, ho1, v1, ho2', hisz, ← hz2]
              rw [← Nat.add_mul, ← Nat.add_mul]
              exact Nat.mul_le_mul_right _ (by omega)
            · refine hun.trans (prefix_refl' _) ?_ (fun _ h => h)
              exact (drew_un (tc := tc)).trans (s' := s.drew) (tc' := tc) (prefix_refl' _) (grow_un (drew_ok hhk) _ _ _ _ _) fun _ h => h
          split at ha
          · have hx' := hx
            simp only [VRel] at hx'
            subst hx'
            cases ha with
            | mk hb ha =>
              by_cases hn0 : n2.v = 0
              · -- still nil
                have hr := run_append2_room (P := P) s.w t t' ty e e' i0 hu hu' hi none 0 0 au n2.v capu news (v4 s.w fun _ => rfl) (by omega) s.w rfl
                refine eff_val (s' := { s with base := s.base ++ [((none : Option Addr), sig.length)] }) hr ⟨Nat.le_refl _, fun _ _ _ => rfl, fun _ _ => rfl, fun _ h => .inl h, rfl, rfl, rfl⟩ (List.prefix_append _ _) (nilobj_ok hh h0sig ?_) ?_ ?_ ha
                · simp [hn0]
                · simp only [VRel]
                  refine ⟨none, 0, by rw [hn0], Nat.le_refl _, by omega, (fun h => by cases h), by rw [len_eq]; exact h0sig, by simp [len_eq, hh.len], .inl rfl⟩
                · exact fun tt _ hl => ⟨append_live hl _, fun _ _ => rfl⟩
              · refine grow none 0 0 [] [] h [] n2 hh (fun _ _ hl => ⟨hl, fun _ _ => rfl⟩) (by simp) (by simp) rfl ⟨fun i r hr => by simp [nth] at hr, fun i j r k d hr => by simp [nth] at hr⟩ (fun w _ => first0 _ _ _ _) (by omega) (by simpa using hb) (fun _ => ((l2 ()).drop i2.v).take n2.v) rfl ?_
                rw [← len_eq sig]
                exact ha
          · rename_i b i f z n c ex
            split at ha
            · rename_i o ho
              split at ha
              · rename_i sig' l hc
                split at ha
                · split at ha
                  · rename_i hsig
                    obtain rfl := sigEq_eq hsig
                    split at ha
                    · rename_i hz
                      have hz := Nat.eq_of_beq_eq_true hz
                      rw [len_eq] at hz
                      subst hz
                      obtain ⟨hle, ha⟩ := leN_ok ha
                      rw [nAdd_v] at hle
                      cases ha with
                      | mk hb ha =>
                        have hle' : i.v + n.v ≤ (l ()).length := hle
                        obtain ⟨a, cap, olds, rfl, o1, o2, o3, o4, o5, o6, o7, o8⟩ := first_ok hT hh hx ho hc rfl hle'
                        have hl1 : (((l ()).drop i.v).take n.v).length = n.v := by simp; omega
                        have hzz : i0.size = sig'.length := by rw [hisz, ← hz2]
                        rw [← hzz] at o4
                        -- the write in place
                        have room : n.v + n2.v ≤ cap → o.mt = true → cap ≠ 0 → ∃ (ad a0 : Addr), a = some ad ∧ nth s.base b = some (some a0, sig'.length) ∧ ad.spot = none ∧ ad.block = a0.block ∧ ad.off = a0.off + i.v * sig'.length ∧ s.own a0.block ∧
                            (Builtin.append_ #[t, t'] ty #[.slice a n.v cap, .slice au n2.v capu]).run P s.w = .ok (.slice a (n.v + n2.v) cap) (s.write a0.block (ad.off + n.v * sig'.length) news).w ∧
                            (∀ j, j < news.length → (s.w.cell? ⟨a0.block, ad.off + n.v * sig'.length + j, none⟩).isSome = true) ∧ ∃ t m, s.w.shape? ad.block = some (t, m) ∧ ad.off + cap * sig'.length ≤ m := by
                          intro hroom hm hcap
                          rcases o8 with o8 | ⟨ad, rfl, hp, ts, m, hsh, hsm⟩
                          · omega
                          · obtain ⟨a0, sz, hb0, hsp0, had, hfl, hcont⟩ := obj_at hT hh hp ho
                            obtain ⟨_, hb1, _⟩ := base_rows hT hh ho hc
                            rw [hb0] at hb1
                            simp at hb1
                            obtain ⟨_, rfl⟩ := hb1
                            obtain ⟨hown, hfro⟩ := flags_own hT hh hm hfl
                            have hab : ad.block = a0.block := by rw [had]
                            have hcell : ∀ j, j < news.length → (s.w.cell? ⟨a0.block, ad.off + n.v * sig'.length + j, none⟩).isSome = true := fun j hj => by
                              rw [← hab]
                              refine shape_cell hsh ?_
                              rw [hn1, hxl] at hj
                              have : (n.v + n2.v) * sig'.length ≤ cap * sig'.length := Nat.mul_le_mul_right _ hroom
                              rw [Nat.add_mul] at this
                              omega
                            refine ⟨ad, a0, rfl, hb0, by rw [had], hab, by rw [had]; rfl, hown, ?_, hcell, ts, m, hsh, hsm⟩
                            refine run_append2_room (P := P) s.w t t' ty e e' i0 hu hu' hi (some ad) n.v cap au n2.v capu news (v4 s.w fun _ => rfl) hroom _ ?_
                            have hst := run_storeCells_cells (P := P) a0.block (ad.off + n.v * sig'.length) news 0 s.w (fun j hj => by simpa using hcell j hj) (fun j _ => hfro _) v3
                            simp only [Nat.add_zero] at hst
                            simp only [hzz]
                            rw [add_none hT (place_spot hT hp), hab]
                            exact hst
                        cases ha with
                        | inplace hm hfit ha =>
                          by_cases hcap : cap = 0
                          · have hn0 : n2.v = 0 := by omega
                            have hnn : n.v = 0 := by omega
                            have hns : news = [] := by rw [← List.length_eq_zero_iff, v1, hn0]; simp
                            have hr := run_append2_room (P := P) s.w t t' ty e e' i0 hu hu' hi a n.v cap au n2.v capu news (v4 s.w fun _ => rfl) (by omega) s.w (by subst hns; cases a <;> simp [storeCells])
                            refine eff_val (s' := s) hr (Ev.refl s) (prefix_refl' _) (same_ok (l := l) hh ho hm hc ?_) ?_ (fun tt _ hl => ⟨write_live ho _ hl, fun _ _ => rfl⟩) ha
                            · simp [hn0]
                            · rw [show n.v + n2.v = n.v by omega]
                              simp only [VRel] at hx ⊢
                              obtain ⟨a', cap', q1, q2⟩ := hx
                              refine ⟨a', cap', ?_, ?_⟩
                              · rw [nAdd_v, hn0]; exact q1
                              · rw [nAdd_v, hn0]; exact q2
                          · obtain ⟨ad, a0, rfl, hb0, hsp, hab, hoff, hown, hr, hcell, ts, m, hsh, hsm⟩ := room (by omega) hm hcap
                            refine eff_val (s' := s.write a0.block (ad.off + n.v * sig'.length) news) hr (write_ev hown _ _) (prefix_refl' _) (write_ok hh ho hm hb0 (c := .rows sig' _) ?_) ?_ (write_un hh ho hm hb0 _ _ (.inl (by simp))) ha
                            · have := rows_write hh ho hm hc hb0 v2 hn1 hle' (off := ad.off + n.v * sig'.length) (by rw [hoff, Nat.add_mul]; omega) hcell
                              rw [hxl] at this
                              exact this
                            · have hE := write_ev hown (ad.off + n.v * sig'.length) news
                              have hx2 := VRel.mono hE (prefix_refl' _) _ _ hx
                              simp only [VRel, nAdd_v] at hx2 ⊢
                              obtain ⟨a', cap', q1, q2, q3, q4, q5⟩ := hx2
                              simp at q1
                              obtain ⟨rfl, rfl⟩ := q1
                              exact ⟨_, _, rfl, hfit, q3, q4, q5⟩
                        | either hm ha =>
                          by_cases hroom : n.v + n2.v ≤ cap
                          · by_cases hcap : cap = 0
                            · have hn0 : n2.v = 0 := by omega
                              have hnn : n.v = 0 := by omega
                              have hns : news = [] := by rw [← List.length_eq_zero_iff, v1, hn0]; simp
                              have hr := run_append2_room (P := P) s.w t t' ty e e' i0 hu hu' hi a n.v cap au n2.v capu news (v4 s.w fun _ => rfl) (by omega) s.w (by subst hns; cases a <;> simp [storeCells])
                              refine eff_val (s' := { s with base := s.base ++ [((none : Option Addr), sig'.length)] }) hr ⟨Nat.le_refl _, fun _ _ _ => rfl, fun _ _ => rfl, fun _ h => .inl h, rfl, rfl, rfl⟩ (List.prefix_append _ _) (nilobj_ok (kill_ok hh b) h0sig ?_) ?_ ?_ ha
                              · simp [hn0, hnn]
                              · simp only [VRel]
                                refine ⟨a, cap, by rw [nAdd_v], Nat.le_refl _, by rw [nAdd_v]; omega, (fun h => by cases h), h0sig, by simp [len_eq, hh.len, upd_eq], .inl hcap⟩
                              · intro tt htt hl
                                exact ⟨append_live (upd_none_live (clash_obj (List.mem_singleton.2 rfl) htt) hl _) _, fun _ _ => rfl⟩
                            · obtain ⟨ad, a0, rfl, hb0, hsp, hab, hoff, hown, hr, hcell, ts, m, hsh, hsm⟩ := room hroom hm hcap
                              have hE := write_ev hown (ad.off + n.v * sig'.length) news
                              have hrw := rows_write hh ho hm hc hb0 v2 hn1 hle' (off := ad.off + n.v * sig'.length) (by rw [hoff, Nat.add_mul]; omega) hcell
                              rw [hxl] at hrw
                              have hw := write_ok hh ho hm hb0 (c := .rows sig' fun _ => (l ()).take (i.v + n.v) ++ ((l2 ()).drop i2.v).take n2.v ++ (l ()).drop (i.v + n.v + n2.v)) (off := ad.off + n.v * sig'.length) (vs := news) hrw
                              have hob : nth (upd h b (some ⟨true, .rows sig' fun _ => (l ()).take (i.v + n.v) ++ ((l2 ()).drop i2.v).take n2.v ++ (l ()).drop (i.v + n.v + n2.v)⟩)) b = some (some ⟨true, .rows sig' fun _ => (l ()).take (i.v + n.v) ++ ((l2 ()).drop i2.v).take n2.v ++ (l ()).drop (i.v + n.v + n2.v)⟩) := by
                                rw [nth_upd, if_pos rfl, ho]; rfl
                              have hal := alias_ok hw (sig := sig') (l := fun _ => ((l ()).drop i.v).take n.v ++ ((l2 ()).drop i2.v).take n2.v) (off := ad.off) hob rfl (ad := a0) (sz := sig'.length) hb0 h0sig (by
                                have hsft := hrw.2.2.shift i.v (n.v + n2.v)
                                rw [take_drop_mid _ _ _ _ _ hle' hxl] at hsft
                                refine hsft.mono hE fun k => ?_
                                simp only [Sit.mem, hoff, Nat.add_assoc])
                              rw [upd_upd] at hal
                              refine eff_val (s' := { s.write a0.block (ad.off + n.v * sig'.length) news with base := s.base ++ [(some (⟨a0.block, ad.off, none⟩ : Addr), sig'.length)] }) hr (hE.trans ⟨Nat.le_refl _, fun _ _ _ => rfl, fun _ _ => rfl, fun _ h => .inl h, rfl, rfl, rfl⟩) (List.prefix_append _ _) hal ?_ ?_ ha
                              · simp only [VRel, nAdd_v]
                                refine ⟨some ad, cap, rfl, Nat.le_refl _, hroom, (fun h => by cases h), h0sig, by simp [len_eq, hh.len, upd_eq, Sit.write], .inr ⟨ad, rfl, ?_, ts, m, ?_, hsm⟩⟩
                                · refine ⟨⟨a0.block, ad.off, none⟩, sig'.length, ?_, rfl, ?_⟩
                                  · rw [nth_append, if_neg (by simp [len_eq, upd_eq, Sit.write, hh.len])]
                                    simp [len_eq, upd_eq, Sit.write, hh.len, nth]
                                  · simp [zv, ← hab]
                                    rw [← hsp]
                                · simp only [Sit.write]
                                  rw [shape_setCells]; exact hsh
                              · intro tt htt hl
                                have hun := write_un hh ho hm hb0 (⟨true, .rows sig' fun _ => (l ()).take (i.v + n.v) ++ ((l2 ()).drop i2.v).take n2.v ++ (l ()).drop (i.v + n.v + n2.v)⟩) [.obj b] (off := ad.off + n.v * sig'.length) (vs := news) (.inl (by simp)) tt htt hl
                                exact ⟨append_live (upd_none_live (clash_obj (List.mem_singleton.2 rfl) htt) hl _) _, hun.2⟩
                          · refine grow a n.v cap olds _ (upd h b none) [.obj b] (nAdd n n2) (kill_ok hh b) (fun tt htt hl => ⟨upd_none_live (clash_obj (List.mem_singleton.2 rfl) htt) hl _, fun _ _ => rfl⟩) (nAdd_v _ _) (by rw [o1, hl1]) hl1 o2 o4 (by omega) hb (fun _ => ((l ()).drop i.v).take n.v ++ ((l2 ()).drop i2.v).take n2.v) rfl ?_
                            exact ha
                        | fresh hex hfit ha =>
                          refine grow a n.v cap olds _ h [] (nAdd n n2) hh (fun _ _ hl => ⟨hl, fun _ _ => rfl⟩) (nAdd_v _ _) (by rw [o1, hl1]) hl1 o2 o4 (by have := o7 hex; omega) hb (fun _ => ((l ()).drop i.v).take n.v ++ ((l2 ()).drop i2.v).take n2.v) rfl ?_
                          exact ha
                    · exact ha.elim
                  · exact ha.elim
                · exact ha.elim
              · exact ha.elim
            · exact ha.elim
          · exact ha.elim
end
end Go.Sy
