/- Soundness: slice expressions; every plain operation. -/
import Derived.Test.YtlgmbpnlakjefaaSyI
namespace Go.Sy
set_option linter.unusedSimpArgs false
set_option linter.unusedVariables false
set_option linter.unusedSectionVars false
theorem DIn.cell {s : Sit} {sig : List Kd} {g : Nat → Option Value} {rows : List (List D)} (h : DIn s sig g rows) {i j : Nat} (hi : i < rows.length) (hj : j < sig.length) : ∃ v, g (i * sig.length + j) = some v := by
  obtain ⟨r, hr⟩ := nth_of_lt hi
  obtain ⟨k, hk⟩ := nth_of_lt hj
  obtain ⟨d, hd⟩ := nth_of_lt (l := r) (i := j) (by rw [h.1 i r hr]; exact hj)
  obtain ⟨v, hv, _⟩ := h.2 i j r k d hr hk hd
  exact ⟨v, hv⟩
theorem shape_of_cell {w : World} {b o : Nat} {v : Value} (h : w.cell? ⟨b, o, none⟩ = some v) : ∃ t m, w.shape? b = some (t, m) ∧ o < m := by
  unfold World.cell? at h
  unfold World.shape?
  simp only at h
  split at h
  · rename_i c e f hb
    simp at h
    refine ⟨e, c.size, rfl, ?_⟩
    exact (Array.getElem?_eq_some_iff.1 h).1
  · cases h
theorem shape_of_block {w : World} {b : Nat} {c : Array Value} {e : TypeId} {f : Nat × Nat} (h : w.heap[b]? = some (.cells c e f)) : w.shape? b = some (e, c.size) := by
  unfold World.shape?; rw [h]
section
variable {P : Program} {T : Tab} (hT : TabOk P T) {s : Sit} {st : St} {a : Act} {K : AV → Prop}
include hT
/-- the rows of an array's variable that is a row object lie in its block -/
theorem rows_fit {h : Heap} (hh : HRel s h) {b : Nat} {o : Obj} {sig : List Kd} {l : Unit → List (List D)} (ho : nth h b = some (some o)) (hc : o.c = .rows sig l) {ad : Addr}
    (hp : s.place b 0 0 ad) : (l ()).length = 0 ∨ ∃ t m, s.w.shape? ad.block = some (t, m) ∧ ad.off + (l ()).length * sig.length ≤ m := by
  obtain ⟨ab, sz, h1, h2⟩ := hh.obj b o ho
  rw [hc] at h2
  obtain ⟨rfl, h0, h2⟩ := h2
  obtain ⟨a0, z, p1, p2, rfl⟩ := hp
  rw [h1] at p1
  simp at p1
  obtain ⟨rfl, rfl⟩ := p1
  rcases h2 with ⟨h2, _⟩ | ⟨ad, h2, _, h3, _⟩
  · cases h2
  · simp at h2; subst h2
    by_cases hl : (l ()).length = 0
    · exact .inl hl
    · refine .inr ?_
      obtain ⟨v, hv⟩ := h3.cell (i := (l ()).length - 1) (j := sig.length - 1) (by omega) (by omega)
      obtain ⟨t, m, e1, e2⟩ := shape_of_cell hv
      refine ⟨t, m, e1, ?_⟩
      have : (l ()).length * sig.length = ((l ()).length - 1) * sig.length + sig.length := by
        rw [← Nat.succ_mul]; congr 1; omega
      simp only
      omega
theorem cells_fit {h : Heap} (hh : HRel s h) {b : Nat} {o : Obj} {l : List AV} (ho : nth h b = some (some o)) (hc : o.c = .cells l) {f n : Nat} {ad : Addr}
    (hp : s.place b 0 f ad) (hl : f + n ≤ l.length) : n = 0 ∨ ∃ t m, s.w.shape? ad.block = some (t, m) ∧ ad.off + n ≤ m := by
  obtain ⟨ab, sz, h1, h2⟩ := hh.obj b o ho
  rw [hc] at h2
  obtain ⟨ad0, rfl, _, h2, _⟩ := h2
  obtain ⟨a0, z, p1, p2, rfl⟩ := hp
  rw [h1] at p1
  simp at p1
  obtain ⟨rfl, rfl⟩ := p1
  by_cases hn : n = 0
  · exact .inl hn
  · refine .inr ?_
    obtain ⟨x, hx⟩ := nth_of_lt (l := l) (i := f + n - 1) (by omega)
    obtain ⟨v, hv, _⟩ := h2 _ _ hx
    obtain ⟨t, m, e1, e2⟩ := shape_of_cell hv
    exact ⟨t, m, e1, by simp only [Nat.zero_mul, Nat.zero_add]; omega⟩
theorem slice_ok {h' : Heap} (hh : HRel s h') {tm : List AV} (ht : VRels s tm a.tmps.toList) {t : Nat} {x : AV} {u : Value} {lo hi mx : Option Operand} (h : eSlice T t tm x lo hi mx h' K) (hx : VRel s x u) :
    ValOk P s (Instr.sliceAt t u (lo.map a.eval) (hi.map a.eval) (mx.map a.eval)) K := by
  unfold eSlice ti at h
  split at h
  · exact h.elim
  · rename_i hmh
    split at h
    · rename_i d hd
      have hk := hT t d hd
      obtain ⟨desc, hu, hkd⟩ := hk.under
      split at h
      · rename_i e hf
        rw [hf] at hkd
        simp only [KOk] at hkd
        subst hkd
        split at h
        · rename_i b i f z n c ex
          obtain ⟨de, hde, h1⟩ := esz_ok hT h
          have hke := hT e de hde
          split at h1
          · rename_i hz
            have hz := Nat.eq_of_beq_eq_true hz
            have hx0 := hx
            simp only [VRel] at hx
            obtain ⟨a0, cap, rfl, e1, e2, e3, e4, e5, e6⟩ := hx
            obtain ⟨l, ub, m, m', hK, b1, b2, b3, b4, b5, b6, b7, b8⟩ := bounds_ok hT ht true n.v cap rfl e2 hmh h1
            have hrun : ∀ w, (Instr.sliceAt t (.slice a0 n.v cap) (lo.map a.eval) (hi.map a.eval) (mx.map a.eval)).run P w = .ok (.slice (if m' = l.v then a0 else a0.map (·.add (l.v * z))) (ub.v - l.v) (m' - l.v)) w := fun w => by
              simp only [Instr.sliceAt, Instr.slice, Sem.run_bind, run_under hu, Result.andThen_ok, b8, hke.size, Sem.run_pure, hz]
            have hex : ∀ ex' : Bool, ex' = (match mx with | some _ => true | none => ex) → ex' = true → m' - l.v = m.v - l.v := by
              intro ex' h1 h2
              cases mx with
              | none =>
                obtain ⟨h3, h4⟩ := b7 rfl
                simp only at h1
                have := e3 (h1 ▸ h2)
                omega
              | some q => rw [b6 (by simp)]
            have key : ∀ (i' f' : NX), (0 < cap → ∀ ad, s.place b i.v f.v ad → s.place b i'.v f'.v ⟨ad.block, ad.off + l.v * z, none⟩) →
                VRel s (.sl b i' f' z (nSub ub l) (nSub m l) (match mx with | some _ => true | none => ex)) (.slice (if m' = l.v then a0 else a0.map (·.add (l.v * z))) (ub.v - l.v) (m' - l.v)) := by
              intro i' f' hpl
              simp only [VRel]
              refine ⟨_, _, by rw [nSub_v], by rw [nSub_v, nSub_v]; omega, by rw [nSub_v]; omega, fun h => by rw [nSub_v]; exact hex _ rfl h, e4, e5, ?_⟩
              by_cases hml : m' = l.v
              · exact .inl (by omega)
              · refine .inr ?_
                rw [if_neg hml]
                rcases e6 with e6 | ⟨ad, rfl, hp, tt, mm, hs, hm⟩
                · omega
                · refine ⟨⟨ad.block, ad.off + l.v * z, none⟩, by simp [add_none hT (place_spot hT hp)], hpl (by omega) ad hp, tt, mm, hs, ?_⟩
                  simp only
                  have : l.v * z + (m' - l.v) * z ≤ cap * z := by rw [← Nat.add_mul]; exact Nat.mul_le_mul_right _ (by omega)
                  omega
            split at hK
            · rename_i o ho
              split at hK
              · exact ⟨_, _, hrun, key i (nAdd f (nMul l z)) (fun _ ad hp => by rw [nAdd_v, nMul_v]; exact place_add hT hp), hK⟩
              · rename_i sig rr hc
                split at hK
                · rename_i hsz
                  have hsz := Nat.eq_of_beq_eq_true hsz
                  rw [len_eq] at hsz
                  refine ⟨_, _, hrun, key (nAdd i l) f (fun _ ad hp => ?_), hK⟩
                  obtain ⟨ab, hb, _⟩ := base_rows hT hh ho hc
                  obtain ⟨q, zz, p1, p2, rfl⟩ := hp
                  rw [hb] at p1
                  simp at p1
                  obtain ⟨rfl, rfl⟩ := p1
                  refine ⟨q, sig.length, hb, p2, ?_⟩
                  rw [nAdd_v, ← hsz]
                  simp [Nat.add_mul]; omega
                · exact hK.elim
            · exact hK.elim
          · exact h1.elim
        · obtain ⟨de, hde, h1⟩ := esz_ok hT h
          have hke := hT e de hde
          simp only [VRel] at hx
          subst hx
          obtain ⟨l, ub, m, m', hK, b1, b2, b3, b4, b5, b6, b7, b8⟩ := bounds_ok hT ht true 0 0 rfl (Nat.le_refl _) hmh h1
          refine ⟨.nils, .slice none 0 0, fun w => ?_, by simp [VRel], hK⟩
          simp only [Instr.sliceAt, Instr.slice, Sem.run_bind, run_under hu, Result.andThen_ok, b8, hke.size, Sem.run_pure]
          have : m' = 0 := by omega
          have hl : l.v = 0 := by omega
          have hub : ub.v = 0 := by omega
          simp [this, hl, hub]
        · exact h.elim
      · rename_i n e hf
        rw [hf] at hkd
        simp only [KOk] at hkd
        subst hkd
        split at h
        · rename_i b i f
          obtain ⟨de, hde, h1⟩ := esz_ok hT h
          have hke := hT e de hde
          split at h1
          · rename_i hz0
            have hz0 := Nat.le_of_ble_eq_true hz0
            simp only [VRel] at hx
            obtain ⟨ad, hp, rfl⟩ := hx
            obtain ⟨l, ub, m, m', hK, b1, b2, b3, b4, b5, b6, b7, b8⟩ := bounds_ok hT ht (c := .l n) (n := .l n) false n n rfl (Nat.le_refl _) hmh h1
            simp only [zv] at b5 b7
            have hm : m' = m.v := by
              cases mx with
              | none => obtain ⟨h1, h2⟩ := b7 rfl; omega
              | some q => exact b6 (by simp)
            subst hm
            have hrun : ∀ w, (Instr.sliceAt t (.pointer (some ad)) (lo.map a.eval) (hi.map a.eval) (mx.map a.eval)).run P w = .ok (.slice (some (if m.v = l.v then ad else ⟨ad.block, ad.off + l.v * de.size, none⟩)) (ub.v - l.v) (m.v - l.v)) w := fun w => by
              simp only [Instr.sliceAt, Sem.run_bind, run_under hu, Result.andThen_ok, b8, hke.size, Sem.run_pure, Instr.sureAddr, add_none hT (place_spot hT hp)]
            have hlb : b < s.base.length := by
              obtain ⟨q, zz, p1, _, _⟩ := hp
              exact nth_some_lt p1
            have key : ∀ (i' f' : NX), s.place b i'.v f'.v ⟨ad.block, ad.off + l.v * de.size, none⟩ → (n * de.size = 0 ∨ ∃ t m, s.w.shape? ad.block = some (t, m) ∧ ad.off + n * de.size ≤ m) →
                VRel s (.sl b i' f' de.size (nSub ub l) (nSub m l) true) (.slice (some (if m.v = l.v then ad else ⟨ad.block, ad.off + l.v * de.size, none⟩)) (ub.v - l.v) (m.v - l.v)) := by
              intro i' f' hpl hsh
              simp only [VRel]
              refine ⟨_, _, by rw [nSub_v], by rw [nSub_v, nSub_v]; omega, by rw [nSub_v]; exact Nat.le_refl _, fun _ => by rw [nSub_v], by omega, hlb, ?_⟩
              by_cases hml : m.v = l.v
              · exact .inl (by omega)
              · refine .inr ⟨⟨ad.block, ad.off + l.v * de.size, none⟩, by rw [if_neg hml], hpl, ?_⟩
                rcases hsh with hsh | ⟨tt, mm, hs, hm⟩
                · rcases Nat.mul_eq_zero.1 hsh with h0 | h0 <;> omega
                · refine ⟨tt, mm, hs, ?_⟩
                  simp only
                  have : l.v * de.size + (m.v - l.v) * de.size ≤ n * de.size := by rw [← Nat.add_mul]; exact Nat.mul_le_mul_right _ (by omega)
                  omega
            split at hK
            · rename_i o ho
              split at hK
              · split at hK
                · rename_i f0
                  simp only [zv] at hp
                  split at hK
                  · rename_i cs hc
                    split at hK
                    · rename_i r hr
                      obtain ⟨g1, _⟩ := part_some hr
                      refine ⟨_, _, hrun, key (.l 0) _ (by rw [nAdd_v, nMul_v]; exact place_add hT hp) ?_, hK⟩
                      exact cells_fit hT hh ho hc hp g1
                    · exact hK.elim
                  · rename_i sig r hc
                    split at hK
                    · split at hK
                      · rename_i hsz
                        have hsz := Nat.eq_of_beq_eq_true hsz
                        rw [len_eq] at hsz
                        cases hK with
                        | mk hn hK =>
                          obtain ⟨ab, hb, _⟩ := base_rows hT hh ho hc
                          refine ⟨_, _, hrun, key l (.l 0) (by rw [← hsz]; have := place_row hT (j := l.v) hp hb; rw [Nat.zero_add] at this; exact this) ?_, hK⟩
                          rcases rows_fit hT hh ho hc hp with hl | ⟨tt, mm, g1, g2⟩
                          · left; rw [← hn, hl]; simp
                          · right; exact ⟨tt, mm, g1, by rw [← hn, ← hsz]; exact g2⟩
                      · exact hK.elim
                    · exact hK.elim
                · exact hK.elim
              · exact hK.elim
            · exact hK.elim
          · exact h1.elim
        · exact h.elim
      · exact h.elim
    · exact h.elim

theorem ePure_sound (ht : VRels s st.t a.tmps.toList) (hh : HRel s st.h) (o : Oper) (h : ePure T st o.op K) : PureOk P s (execOp a.eval o) K := by
  obtain ⟨dst, op, type, pos, after, guard⟩ := o
  simp only at h
  unfold ePure at h
  split at h
  · exact ⟨_, _, fun w => by simp [execOp], ev_rel ht _, h⟩
  · exact ⟨_, _, fun w => by simp [execOp], ev_rel ht _, h⟩
  · rename_i c x y
    have hc := ev_rel ht c
    split at h
    · rename_i cb he
      rw [he] at hc
      simp only [VRel] at hc
      obtain ⟨av, h1, h2⟩ := pick_ok hT h (ev_rel ht x) (ev_rel ht y)
      refine ⟨av, _, fun w => ?_, h1, h2⟩
      simp only [execOp, hc, asBool, Sem.run_bind, Sem.run_pure, Result.andThen_ok]
    · exact h.elim
  · rename_i t ps
    have hr := parts_rel ht ps.toList
    have := build_ok hT (qs := ps.map fun p => (p.1, a.eval p.2)) h (by simpa using hr)
    exact this.pure
  · rename_i x
    have hx := ev_rel ht x
    split at h
    · rename_i b i f he
      rw [he] at hx
      have hx' := hx
      simp only [VRel] at hx
      obtain ⟨ad, _, hx⟩ := hx
      refine ⟨_, a.eval x, fun w => ?_, hx', h⟩
      simp only [execOp, hx]
      rfl
    · rename_i g fs cs he
      rw [he] at hx
      have hx' := hx
      simp only [VRel] at hx
      obtain ⟨p, q, hx, _⟩ := hx
      refine ⟨_, a.eval x, fun w => ?_, hx', h⟩
      simp only [execOp, hx]
      rfl
    · exact h.elim
  · exact (bin_ok hT h (ev_rel ht _) (ev_rel ht _)).pure
  · exact (un_ok hT h (ev_rel ht _)).pure
  · rename_i sr ds x
    unfold ti at h
    split at h
    · rename_i dd hd
      split at h
      · rename_i k hk
        split at h
        · rename_i sd hs
          have hx := ev_rel ht x
          split at h
          · rename_i k' n he
            rw [he] at hx
            simp only [VRel] at hx
            have := conv_ok hT (s := s) hd hs hk (k' := k') h
            rw [← hx] at this
            exact this.pure
          · exact h.elim
        · exact h.elim
      · exact h.elim
    · exact h.elim
  · rename_i sr x fi
    have hx := ev_rel ht x
    split at h
    · rename_i b i f he
      rw [he] at hx
      simp only [VRel] at hx
      obtain ⟨ad, hp, hx⟩ := hx
      obtain ⟨fields, fl, h1, h2, h3⟩ := fieldAt_ok hT h
      unfold ti at h3
      split at h3
      · rename_i d hd
        have hk := hT _ d hd
        split at h3
        · exact h3.elim
        · rename_i hsz
          refine ⟨_, .pointer (some ⟨ad.block, ad.off + fl.offset, none⟩), fun w => ?_, ?_, h3⟩
          · simp only [execOp, Instr.fieldAt, hx, Sem.run_bind, run_under h1, Result.andThen_ok, h2, Instr.sureAddr, Sem.run_pure, fieldPlace, hk.size, Sem.run_ite]
            rw [if_neg (fun e => by rw [e] at hsz; cases hsz)]
            simp only [Result.andThen_ok, add_none hT (place_spot hT hp)]
          · simp only [VRel]
            exact ⟨_, by rw [nAdd_v]; exact place_add hT hp, rfl⟩
      · exact h3.elim
    · exact h.elim
  · rename_i sr x fi
    have hx := ev_rel ht x
    split at h
    · rename_i cs he
      rw [he] at hx
      simp only [VRel] at hx
      obtain ⟨u, hx, hxr⟩ := hx
      obtain ⟨fields, fl, h1, h2, h3⟩ := fieldAt_ok hT h
      obtain ⟨av, v, e1, e2, e3⟩ := partV_ok hT h3 hxr
      refine ⟨av, v, fun w => ?_, e2, e3⟩
      simp only [execOp, Instr.field, hx, Sem.run_bind, run_under h1, Result.andThen_ok, h2, asAgg, Sem.run_pure, e1]
    · exact h.elim
  · rename_i t x ix
    have hi := ev_rel ht ix
    split at h
    · rename_i k n he
      rw [he] at hi
      simp only [VRel] at hi
      have := indexAddr_ok hT (k := k) hh h (ev_rel ht x)
      rw [← hi] at this
      exact this.pure
    · exact h.elim
  · rename_i t x ix
    have hi := ev_rel ht ix
    split at h
    · rename_i k n he
      rw [he] at hi
      simp only [VRel] at hi
      have := index_ok hT (k := k) h (ev_rel ht x)
      rw [← hi] at this
      exact this.pure
    · exact h.elim
  · exact (slice_ok hT hh ht h (ev_rel ht _)).pure
  · rename_i x i
    have hx := ev_rel ht x
    split at h
    · rename_i vs he
      rw [he] at hx
      simp only [VRel] at hx
      obtain ⟨u, hx, hxr⟩ := hx
      split at h
      · rename_i v hv
        obtain ⟨z, hz, hzr⟩ := hxr.nth hv
        refine ⟨v, z, fun w => ?_, hzr, h⟩
        simp only [Array.getElem?_toList] at hz
        simp only [execOp, Instr.extract, hx, hz, Sem.run_bind, Sem.run_pure, Result.andThen_ok]
      · exact h.elim
    · exact h.elim
  · rename_i fn fs cs
    refine ⟨_, .func fn (fs.map a.eval) (cs.map a.eval), fun w => by simp [execOp, Instr.makeFunc], ?_, h⟩
    simp only [VRel]
    exact ⟨_, _, rfl, by simpa using evs_rel ht fs.toList, by simpa using evs_rel ht cs.toList⟩
  · exact h.elim
end
end Go.Sy
