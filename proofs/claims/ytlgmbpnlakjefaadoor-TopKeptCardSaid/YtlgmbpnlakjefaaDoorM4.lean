/- Put together by a program of this work out of its texts SyJ, SyK. -/
import Derived.Test.YtlgmbpnlakjefaaDoorM3
section
/- Soundness: slice expressions; every plain operation. -/
namespace Go.Sy
set_option linter.unusedSimpArgs false
set_option linter.unusedVariables false
set_option linter.unusedSectionVars false
theorem DIn.cell {s : Sit} {sig : List Kd} {g : Nat → Option Value} {rows : List (List D)} (h : DIn s sig g rows) {i j : Nat} (hi : i < rows.length) (hj : j < sig.length) : ∃ v, g (i * sig.length + j) = some v := by
  obtain ⟨r, hr⟩ := nth_of_lt hi
  obtain ⟨k, hk⟩ := nth_of_lt hj
  obtain ⟨d, hd⟩ := nth_of_lt (l := r) (i := j) (by rw [h.1 i r hr]; exact hj)
  obtain ⟨v, hv, _⟩ := h.2 i j r k d hr hk hd
  exact ⟨v, hv⟩
theorem shape_of_cell {w : World} {b o : Nat} {v : Value} (h : w.cell? ⟨b, o, none⟩ = some v) : ∃ t m, w.shape? b = some (t, m) ∧ o < m := by
  unfold World.cell? at h
  unfold World.shape?
  simp only at h
  split at h
  · rename_i c e f hb
    simp at h
    refine ⟨e, c.size, rfl, ?_⟩
    exact (Array.getElem?_eq_some_iff.1 h).1
  · cases h
theorem shape_of_block {w : World} {b : Nat} {c : Array Value} {e : TypeId} {f : Nat × Nat} (h : w.heap[b]? = some (.cells c e f)) : w.shape? b = some (e, c.size) := by
  unfold World.shape?; rw [h]
section
variable {P : Program} {T : Tab} (hT : TabOk P T) {s : Sit} {st : St} {a : Act} {K : AV → Prop}
include hT
/-- the rows of an array's variable that is a row object lie in its block -/
theorem rows_fit {h : Heap} (hh : HRel s h) {b : Nat} {o : Obj} {sig : List Kd} {l : Unit → List (List D)} (ho : nth h b = some (some o)) (hc : o.c = .rows sig l) {ad : Addr}
    (hp : s.place b 0 0 ad) : (l ()).length = 0 ∨ ∃ t m, s.w.shape? ad.block = some (t, m) ∧ ad.off + (l ()).length * sig.length ≤ m := by
  obtain ⟨ab, sz, h1, h2⟩ := hh.obj b o ho
  rw [hc] at h2
  obtain ⟨rfl, h0, h2⟩ := h2
  obtain ⟨a0, z, p1, p2, rfl⟩ := hp
  rw [h1] at p1
  simp at p1
  obtain ⟨rfl, rfl⟩ := p1
  rcases h2 with ⟨h2, _⟩ | ⟨ad, h2, _, h3, _⟩
  · cases h2
  · simp at h2; subst h2
    by_cases hl : (l ()).length = 0
    · exact .inl hl
    · refine .inr ?_
      obtain ⟨v, hv⟩ := h3.cell (i := (l ()).length - 1) (j := sig.length - 1) (by omega) (by omega)
      obtain ⟨t, m, e1, e2⟩ := shape_of_cell hv
      refine ⟨t, m, e1, ?_⟩
      have : (l ()).length * sig.length = ((l ()).length - 1) * sig.length + sig.length := by
        rw [← Nat.succ_mul]; congr 1; omega
      simp only
      omega
theorem cells_fit {h : Heap} (hh : HRel s h) {b : Nat} {o : Obj} {l : List AV} (ho : nth h b = some (some o)) (hc : o.c = .cells l) {f n : Nat} {ad : Addr}
    (hp : s.place b 0 f ad) (hl : f + n ≤ l.length) : n = 0 ∨ ∃ t m, s.w.shape? ad.block = some (t, m) ∧ ad.off + n ≤ m := by
  obtain ⟨ab, sz, h1, h2⟩ := hh.obj b o ho
  rw [hc] at h2
  obtain ⟨ad0, rfl, _, h2, _⟩ := h2
  obtain ⟨a0, z, p1, p2, rfl⟩ := hp
  rw [h1] at p1
  simp at p1
  obtain ⟨rfl, rfl⟩ := p1
  by_cases hn : n = 0
  · exact .inl hn
  · refine .inr ?_
    obtain ⟨x, hx⟩ := nth_of_lt (l := l) (i := f + n - 1) (by omega)
    obtain ⟨v, hv, _⟩ := h2 _ _ hx
    obtain ⟨t, m, e1, e2⟩ := shape_of_cell hv
    exact ⟨t, m, e1, by simp only [Nat.zero_mul, Nat.zero_add]; omega⟩
theorem slice_ok {h' : Heap} (hh : HRel s h') {tm : List AV} (ht : VRels s tm a.tmps.toList) {t : Nat} {x : AV} {u : Value} {lo hi mx : Option Operand} (h : eSlice T t tm x lo hi mx h' K) (hx : VRel s x u) :
    ValOk P s (Instr.sliceAt t u (lo.map a.eval) (hi.map a.eval) (mx.map a.eval)) K := by
  unfold eSlice ti at h
  split at h
  · exact h.elim
  · rename_i hmh
    split at h
    · rename_i d hd
      have hk := hT t d hd
      obtain ⟨desc, hu, hkd⟩ := hk.under
      split at h
      · rename_i e hf
        rw [hf] at hkd
        simp only [KOk] at hkd
        subst hkd
        split at h
        · rename_i b i f z n c ex
          obtain ⟨de, hde, h1⟩ := esz_ok hT h
          have hke := hT e de hde
          split at h1
          · rename_i hz
            have hz := Nat.eq_of_beq_eq_true hz
            have hx0 := hx
            simp only [VRel] at hx
            obtain ⟨a0, cap, rfl, e1, e2, e3, e4, e5, e6⟩ := hx
            obtain ⟨l, ub, m, m', hK, b1, b2, b3, b4, b5, b6, b7, b8⟩ := bounds_ok hT ht true n.v cap rfl e2 hmh h1
            have hrun : ∀ w, (Instr.sliceAt t (.slice a0 n.v cap) (lo.map a.eval) (hi.map a.eval) (mx.map a.eval)).run P w = .ok (.slice (if m' = l.v then a0 else a0.map (·.add (l.v * z))) (ub.v - l.v) (m' - l.v)) w := fun w => by
              simp only [Instr.sliceAt, Instr.slice, Sem.run_bind, run_under hu, Result.andThen_ok, b8, hke.size, Sem.run_pure, hz]
            have hex : ∀ ex' : Bool, ex' = (match mx with | some _ => true | none => ex) → ex' = true → m' - l.v = m.v - l.v := by
              intro ex' h1 h2
              cases mx with
              | none =>
                obtain ⟨h3, h4⟩ := b7 rfl
                simp only at h1
                have := e3 (h1 ▸ h2)
                omega
              | some q => rw [b6 (by simp)]
            have key : ∀ (i' f' : NX), (0 < cap → ∀ ad, s.place b i.v f.v ad → s.place b i'.v f'.v ⟨ad.block, ad.off + l.v * z, none⟩) →
                VRel s (.sl b i' f' z (nSub ub l) (nSub m l) (match mx with | some _ => true | none => ex)) (.slice (if m' = l.v then a0 else a0.map (·.add (l.v * z))) (ub.v - l.v) (m' - l.v)) := by
              intro i' f' hpl
              simp only [VRel]
              refine ⟨_, _, by rw [nSub_v], by rw [nSub_v, nSub_v]; omega, by rw [nSub_v]; omega, fun h => by rw [nSub_v]; exact hex _ rfl h, e4, e5, ?_⟩
              by_cases hml : m' = l.v
              · exact .inl (by omega)
              · refine .inr ?_
                rw [if_neg hml]
                rcases e6 with e6 | ⟨ad, rfl, hp, tt, mm, hs, hm⟩
                · omega
                · refine ⟨⟨ad.block, ad.off + l.v * z, none⟩, by simp [add_none hT (place_spot hT hp)], hpl (by omega) ad hp, tt, mm, hs, ?_⟩
                  simp only
                  have : l.v * z + (m' - l.v) * z ≤ cap * z := by rw [← Nat.add_mul]; exact Nat.mul_le_mul_right _ (by omega)
                  omega
            split at hK
            · rename_i o ho
              split at hK
              · exact ⟨_, _, hrun, key i (nAdd f (nMul l z)) (fun _ ad hp => by rw [nAdd_v, nMul_v]; exact place_add hT hp), hK⟩
              · rename_i sig rr hc
                split at hK
                · rename_i hsz
                  have hsz := Nat.eq_of_beq_eq_true hsz
                  rw [len_eq] at hsz
                  refine ⟨_, _, hrun, key (nAdd i l) f (fun _ ad hp => ?_), hK⟩
                  obtain ⟨ab, hb, _⟩ := base_rows hT hh ho hc
                  obtain ⟨q, zz, p1, p2, rfl⟩ := hp
                  rw [hb] at p1
                  simp at p1
                  obtain ⟨rfl, rfl⟩ := p1
                  refine ⟨q, sig.length, hb, p2, ?_⟩
                  rw [nAdd_v, ← hsz]
                  simp [Nat.add_mul]; omega
                · exact hK.elim
            · exact hK.elim
          · exact h1.elim
        · obtain ⟨de, hde, h1⟩ := esz_ok hT h
          have hke := hT e de hde
          simp only [VRel] at hx
          subst hx
          obtain ⟨l, ub, m, m', hK, b1, b2, b3, b4, b5, b6, b7, b8⟩ := bounds_ok hT ht true 0 0 rfl (Nat.le_refl _) hmh h1
          refine ⟨.nils, .slice none 0 0, fun w => ?_, by simp [VRel], hK⟩
          simp only [Instr.sliceAt, Instr.slice, Sem.run_bind, run_under hu, Result.andThen_ok, b8, hke.size, Sem.run_pure]
          have : m' = 0 := by omega
          have hl : l.v = 0 := by omega
          have hub : ub.v = 0 := by omega
          simp [this, hl, hub]
        · exact h.elim
      · rename_i n e hf
        rw [hf] at hkd
        simp only [KOk] at hkd
        subst hkd
        split at h
        · rename_i b i f
          obtain ⟨de, hde, h1⟩ := esz_ok hT h
          have hke := hT e de hde
          split at h1
          · rename_i hz0
            have hz0 := Nat.le_of_ble_eq_true hz0
            simp only [VRel] at hx
            obtain ⟨ad, hp, rfl⟩ := hx
            obtain ⟨l, ub, m, m', hK, b1, b2, b3, b4, b5, b6, b7, b8⟩ := bounds_ok hT ht (c := .l n) (n := .l n) false n n rfl (Nat.le_refl _) hmh h1
            simp only [zv] at b5 b7
            have hm : m' = m.v := by
              cases mx with
              | none => obtain ⟨h1, h2⟩ := b7 rfl; omega
              | some q => exact b6 (by simp)
            subst hm
            have hrun : ∀ w, (Instr.sliceAt t (.pointer (some ad)) (lo.map a.eval) (hi.map a.eval) (mx.map a.eval)).run P w = .ok (.slice (some (if m.v = l.v then ad else ⟨ad.block, ad.off + l.v * de.size, none⟩)) (ub.v - l.v) (m.v - l.v)) w := fun w => by
              simp only [Instr.sliceAt, Sem.run_bind, run_under hu, Result.andThen_ok, b8, hke.size, Sem.run_pure, Instr.sureAddr, add_none hT (place_spot hT hp)]
            have hlb : b < s.base.length := by
              obtain ⟨q, zz, p1, _, _⟩ := hp
              exact nth_some_lt p1
            have key : ∀ (i' f' : NX), s.place b i'.v f'.v ⟨ad.block, ad.off + l.v * de.size, none⟩ → (n * de.size = 0 ∨ ∃ t m, s.w.shape? ad.block = some (t, m) ∧ ad.off + n * de.size ≤ m) →
                VRel s (.sl b i' f' de.size (nSub ub l) (nSub m l) true) (.slice (some (if m.v = l.v then ad else ⟨ad.block, ad.off + l.v * de.size, none⟩)) (ub.v - l.v) (m.v - l.v)) := by
              intro i' f' hpl hsh
              simp only [VRel]
              refine ⟨_, _, by rw [nSub_v], by rw [nSub_v, nSub_v]; omega, by rw [nSub_v]; exact Nat.le_refl _, fun _ => by rw [nSub_v], by omega, hlb, ?_⟩
              by_cases hml : m.v = l.v
              · exact .inl (by omega)
              · refine .inr ⟨⟨ad.block, ad.off + l.v * de.size, none⟩, by rw [if_neg hml], hpl, ?_⟩
                rcases hsh with hsh | ⟨tt, mm, hs, hm⟩
                · rcases Nat.mul_eq_zero.1 hsh with h0 | h0 <;> omega
                · refine ⟨tt, mm, hs, ?_⟩
                  simp only
                  have : l.v * de.size + (m.v - l.v) * de.size ≤ n * de.size := by rw [← Nat.add_mul]; exact Nat.mul_le_mul_right _ (by omega)
                  omega
            split at hK
            · rename_i o ho
              split at hK
              · split at hK
                · rename_i f0
                  simp only [zv] at hp
                  split at hK
                  · rename_i cs hc
                    split at hK
                    · rename_i r hr
                      obtain ⟨g1, _⟩ := part_some hr
                      refine ⟨_, _, hrun, key (.l 0) _ (by rw [nAdd_v, nMul_v]; exact place_add hT hp) ?_, hK⟩
                      exact cells_fit hT hh ho hc hp g1
                    · exact hK.elim
                  · rename_i sig r hc
                    split at hK
                    · split at hK
                      · rename_i hsz
                        have hsz := Nat.eq_of_beq_eq_true hsz
                        rw [len_eq] at hsz
                        cases hK with
                        | mk hn hK =>
                          obtain ⟨ab, hb, _⟩ := base_rows hT hh ho hc
                          refine ⟨_, _, hrun, key l (.l 0) (by rw [← hsz]; have := place_row hT (j := l.v) hp hb; rw [Nat.zero_add] at this; exact this) ?_, hK⟩
                          rcases rows_fit hT hh ho hc hp with hl | ⟨tt, mm, g1, g2⟩
                          · left; rw [← hn, hl]; simp
                          · right; exact ⟨tt, mm, g1, by rw [← hn, ← hsz]; exact g2⟩
                      · exact hK.elim
                    · exact hK.elim
                · exact hK.elim
              · exact hK.elim
            · exact hK.elim
          · exact h1.elim
        · exact h.elim
      · exact h.elim
    · exact h.elim

theorem globAddr_ok {t g : Nat} {i : NX} {n : IX} {k : IntKind} {u : Value} (h : eGlobAddr T t g i n K) (hx : VRel s (.gp g i) u) : ValOk P s (Instr.indexAt t u (.int k n.v)) K := by
  unfold eGlobAddr ti at h
  split at h
  · rename_i d hd
    have hk := hT t d hd
    obtain ⟨desc, hu, hkd⟩ := hk.under
    split at h
    · rename_i m e hf
      rw [hf] at hkd
      simp only [KOk] at hkd
      subst hkd
      split at h
      · split at h
        · rename_i p hp
          obtain ⟨de, hde, h⟩ := esz_ok hT h
          have hke := hT e de hde
          split at h
          · rename_i hz
            have hz := Nat.eq_of_beq_eq_true hz
            rw [len_eq] at hz
            obtain ⟨h0, h1, h⟩ := inN_ok h
            simp only [VRel, hp, NX.v, Nat.zero_mul] at hx
            subst hx
            simp only [NX.v] at h1
            have hrun : ∀ w, (Instr.indexAt t (.pointer (some ⟨g, 0, none⟩)) (.int k n.v)).run P w = .ok (.pointer (some ⟨g, n.v.toNat * p.1.length, none⟩)) w := fun w => by
              simp only [Instr.indexAt, asIntOf, Sem.run_bind, Sem.run_pure, Result.andThen_ok, run_under hu, Instr.sureAddr]
              rw [if_pos ⟨h0, h1⟩]
              simp only [Sem.run_bind, hke.size, Result.andThen_ok, Sem.run_pure, add_none hT (ad := ⟨g, 0, none⟩) rfl, hz, Nat.zero_add]
            exact ⟨_, _, hrun, by simp only [VRel, hp, natOf_v], h⟩
          · exact h.elim
        · exact h.elim
      · exact h.elim
    · exact h.elim
  · exact h.elim
theorem strIndex_ok {t : Nat} {b : ByteArray} {n : IX} {k : IntKind} (h : eStrIndex T t b n K) : ValOk P s (Instr.index t (.string b) (.int k n.v)) K := by
  unfold eStrIndex ti at h
  split at h
  · rename_i d hd
    obtain ⟨desc, hu, hkd⟩ := (hT t d hd).under
    split at h
    · rename_i hf
      rw [hf] at hkd
      simp only [KOk] at hkd
      subst hkd
      obtain ⟨h0, h1, h⟩ := inN_ok h
      simp only [NX.v] at h1
      have hlt : n.v.toNat < b.size := by omega
      have hrun : ∀ w, (Instr.index t (.string b) (.int k n.v)).run P w = .ok (.int .u8 (byteAt b n.v.toNat)) w := fun w => by
        simp only [Instr.index, asIntOf, Sem.run_bind, Sem.run_pure, Result.andThen_ok, run_under hu]
        rw [if_pos h0, getElem?_pos b n.v.toNat hlt]
        simp only [Sem.run_pure, byteAt]
        have : b.data[n.v.toNat]? = some b[n.v.toNat] := by
          rw [Array.getElem?_eq_getElem (by simpa using hlt)]; rfl
        rw [this]; rfl
      split at h
      · exact ⟨_, _, hrun, by simp [VRel, IX.v], h⟩
      · exact ⟨_, _, hrun, by simp [VRel, IX.v], h⟩
    · exact h.elim
  · exact h.elim
theorem ePure_sound (ht : VRels s st.t a.tmps.toList) (hh : HRel s st.h) (o : Oper) (h : ePure T st o.op K) : PureOk P s (execOp a.eval o) K := by
  obtain ⟨dst, op, type, pos, after, guard⟩ := o
  simp only at h
  unfold ePure at h
  split at h
  · exact ⟨_, _, fun w => by simp [execOp], ev_rel ht _, h⟩
  · exact ⟨_, _, fun w => by simp [execOp], ev_rel ht _, h⟩
  · rename_i c x y
    have hc := ev_rel ht c
    split at h
    · rename_i cb he
      rw [he] at hc
      simp only [VRel] at hc
      obtain ⟨av, h1, h2⟩ := pick_ok hT h (ev_rel ht x) (ev_rel ht y)
      refine ⟨av, _, fun w => ?_, h1, h2⟩
      simp only [execOp, hc, asBool, Sem.run_bind, Sem.run_pure, Result.andThen_ok]
    · exact h.elim
  · rename_i t ps
    have hr := parts_rel ht ps.toList
    have := build_ok hT (qs := ps.map fun p => (p.1, a.eval p.2)) h (by simpa using hr)
    exact this.pure
  · rename_i x
    have hx := ev_rel ht x
    split at h
    · rename_i b i f he
      rw [he] at hx
      have hx' := hx
      simp only [VRel] at hx
      obtain ⟨ad, _, hx⟩ := hx
      refine ⟨_, a.eval x, fun w => ?_, hx', h⟩
      simp only [execOp, hx]
      rfl
    · rename_i g fs cs he
      rw [he] at hx
      have hx' := hx
      simp only [VRel] at hx
      obtain ⟨p, q, hx, _⟩ := hx
      refine ⟨_, a.eval x, fun w => ?_, hx', h⟩
      simp only [execOp, hx]
      rfl
    · exact h.elim
  · exact (bin_ok hT h (ev_rel ht _) (ev_rel ht _)).pure
  · exact (un_ok hT h (ev_rel ht _)).pure
  · rename_i sr ds x
    unfold ti at h
    split at h
    · rename_i dd hd
      split at h
      · rename_i k hk
        split at h
        · rename_i sd hs
          have hx := ev_rel ht x
          split at h
          · rename_i k' n he
            rw [he] at hx
            simp only [VRel] at hx
            have := conv_ok hT (s := s) hd hs hk (k' := k') h
            rw [← hx] at this
            exact this.pure
          · exact h.elim
        · exact h.elim
      · exact h.elim
    · exact h.elim
  · rename_i sr x fi
    have hx := ev_rel ht x
    split at h
    · rename_i b i f he
      rw [he] at hx
      simp only [VRel] at hx
      obtain ⟨ad, hp, hx⟩ := hx
      obtain ⟨fields, fl, h1, h2, h3⟩ := fieldAt_ok hT h
      unfold ti at h3
      split at h3
      · rename_i d hd
        have hk := hT _ d hd
        split at h3
        · exact h3.elim
        · rename_i hsz
          refine ⟨_, .pointer (some ⟨ad.block, ad.off + fl.offset, none⟩), fun w => ?_, ?_, h3⟩
          · simp only [execOp, Instr.fieldAt, hx, Sem.run_bind, run_under h1, Result.andThen_ok, h2, Instr.sureAddr, Sem.run_pure, fieldPlace, hk.size, Sem.run_ite]
            rw [if_neg (fun e => by rw [e] at hsz; cases hsz)]
            simp only [Result.andThen_ok, add_none hT (place_spot hT hp)]
          · simp only [VRel]
            exact ⟨_, by rw [nAdd_v]; exact place_add hT hp, rfl⟩
      · exact h3.elim
    · exact h.elim
  · rename_i sr x fi
    have hx := ev_rel ht x
    split at h
    · rename_i cs he
      rw [he] at hx
      simp only [VRel] at hx
      obtain ⟨u, hx, hxr⟩ := hx
      obtain ⟨fields, fl, h1, h2, h3⟩ := fieldAt_ok hT h
      obtain ⟨av, v, e1, e2, e3⟩ := partV_ok hT h3 hxr
      refine ⟨av, v, fun w => ?_, e2, e3⟩
      simp only [execOp, Instr.field, hx, Sem.run_bind, run_under h1, Result.andThen_ok, h2, asAgg, Sem.run_pure, e1]
    · exact h.elim
  · rename_i t x ix
    have hi := ev_rel ht ix
    split at h
    · rename_i k n he
      rw [he] at hi
      simp only [VRel] at hi
      have hx := ev_rel (a := a) ht x
      split at h
      · rename_i g i he2
        rw [he2] at hx
        have := globAddr_ok hT (k := k) h hx
        rw [← hi] at this
        exact this.pure
      · have := indexAddr_ok hT (k := k) hh h hx
        rw [← hi] at this
        exact this.pure
    · exact h.elim
  · rename_i t x ix
    have hi := ev_rel ht ix
    split at h
    · rename_i k n he
      rw [he] at hi
      simp only [VRel] at hi
      split at h
      · split at h
        · rename_i b
          have := strIndex_ok hT (s := s) (k := k) h
          rw [← hi] at this
          exact this.pure
        · exact h.elim
      · have := index_ok hT (k := k) h (ev_rel ht x)
        rw [← hi] at this
        exact this.pure
    · exact h.elim
  · exact (slice_ok hT hh ht h (ev_rel ht _)).pure
  · rename_i x i
    have hx := ev_rel ht x
    split at h
    · rename_i vs he
      rw [he] at hx
      simp only [VRel] at hx
      obtain ⟨u, hx, hxr⟩ := hx
      split at h
      · rename_i v hv
        obtain ⟨z, hz, hzr⟩ := hxr.nth hv
        refine ⟨v, z, fun w => ?_, hzr, h⟩
        simp only [Array.getElem?_toList] at hz
        simp only [execOp, Instr.extract, hx, hz, Sem.run_bind, Sem.run_pure, Result.andThen_ok]
      · exact h.elim
    · exact h.elim
  · rename_i fn fs cs
    refine ⟨_, .func fn (fs.map a.eval) (cs.map a.eval), fun w => by simp [execOp, Instr.makeFunc], ?_, h⟩
    simp only [VRel]
    exact ⟨_, _, rfl, by simpa using evs_rel ht fs.toList, by simpa using evs_rel ht cs.toList⟩
  · exact h.elim
end
end Go.Sy
end

section
/- Soundness: memory: new objects, loads, stores. -/
namespace Go.Sy
set_option linter.unusedSimpArgs false
set_option linter.unusedVariables false
set_option linter.unusedSectionVars false

def Live (h : Heap) (b : Nat) : Prop := ∃ o, nth h b = some (some o)
def Tch.id : Tch → Nat
  | .obj b => b
  | .cel b _ _ => b
/-- the addresses of a place -/
def Foot (s : Sit) : Tch → Addr → Prop
  | .obj b, a => ∃ ad sz, nth s.base b = some (some ad, sz) ∧ a.block = ad.block ∧ a.spot = none
  | .cel b f n, a => ∃ ad sz, nth s.base b = some (some ad, sz) ∧ a.block = ad.block ∧ a.spot = none ∧ ad.off + f ≤ a.off ∧ a.off < ad.off + f + n
/-- what is not touched stays -/
def Un (s s' : Sit) (h h' : Heap) (tc : List Tch) : Prop :=
  ∀ t, clashes t tc = false → Live h t.id → Live h' t.id ∧ ∀ a, Foot s t a → s'.w.cell? a = s.w.cell? a
theorem Foot.prefix {s s' : Sit} (hp : s.base <+: s'.base) {t : Tch} {a : Addr} (h : Foot s t a) : Foot s' t a := by
  cases t with
  | obj b => obtain ⟨ad, sz, h1, h2⟩ := h; exact ⟨ad, sz, nth_prefix hp h1, h2⟩
  | cel b f n => obtain ⟨ad, sz, h1, h2⟩ := h; exact ⟨ad, sz, nth_prefix hp h1, h2⟩

theorem prefix_refl' {α : Type} (l : List α) : l <+: l := ⟨[], by simp⟩
theorem ORel.keep {s s' : Sit} (hE : Ev s s') (hp : s.base <+: s'.base) {j : Nat} {o : Obj} (h : ORel s j o)
    (hb : ∀ ad sz, nth s.base j = some (some ad, sz) → s'.w.heap[ad.block]? = s.w.heap[ad.block]?) (ho : ∀ b, s.own b → o.mt = true → (∃ ad sz, nth s.base j = some (some ad, sz) ∧ ad.block = b) → s'.own b) : ORel s' j o := by
  obtain ⟨ab, sz, h1, h2⟩ := h
  refine ⟨ab, sz, nth_prefix hp h1, ?_⟩
  have flags : ∀ ad, ab = some ad → Flags s o.mt ad.block → Flags s' o.mt ad.block := by
    rintro ad rfl ⟨g1, g2⟩
    refine ⟨Nat.lt_of_lt_of_le g1 hE.size, ?_⟩
    cases hm : o.mt with
    | true =>
      rw [hm] at g2
      simp only at g2 ⊢
      exact ⟨ho _ g2.1 hm ⟨ad, sz, h1, rfl⟩, fun oo => by rw [frozen?_congr (hb ad sz h1)]; exact g2.2 oo⟩
    | false =>
      rw [hm] at g2
      simp only at g2 ⊢
      intro ho'
      rcases hE.own _ ho' with h3 | h3
      · exact g2 h3
      · omega
  have mem : ∀ ad, ab = some ad → ∀ n, s'.mem ad n = s.mem ad n := by
    rintro ad rfl n
    exact cell?_congr (hb ad sz h1) _
  cases hc : o.c with
  | cells l =>
    rw [hc] at h2
    obtain ⟨ad, rfl, g1, g2, g3⟩ := h2
    exact ⟨ad, rfl, g1, g2.mono hE hp (mem ad rfl), flags ad rfl g3⟩
  | rows sig l =>
    rw [hc] at h2
    obtain ⟨g0, g1, g2⟩ := h2
    refine ⟨g0, g1, ?_⟩
    rcases g2 with g2 | ⟨ad, rfl, g2, g3, g4⟩
    · exact .inl g2
    · exact .inr ⟨ad, rfl, g2, g3.mono hE (mem ad rfl), flags ad rfl g4⟩
/-- a live object's block, if it has one -/
theorem ORel.block {s : Sit} {j : Nat} {o : Obj} (h : ORel s j o) {ad : Addr} {sz : Nat} (hb : nth s.base j = some (some ad, sz)) : Flags s o.mt ad.block ∧ ad.spot = none := by
  obtain ⟨ab, sz', h1, h2⟩ := h
  rw [hb] at h1
  simp at h1
  obtain ⟨rfl, rfl⟩ := h1
  cases hc : o.c with
  | cells l =>
    rw [hc] at h2
    obtain ⟨ad', e, g1, g2, g3⟩ := h2
    simp at e; subst e
    exact ⟨g3, g1⟩
  | rows sig l =>
    rw [hc] at h2
    obtain ⟨g0, g1, g2⟩ := h2
    rcases g2 with ⟨e, _⟩ | ⟨ad', e, g2, g3, g4⟩
    · cases e
    · simp at e; subst e
      exact ⟨g4, g2⟩

/-! ### a new object -/
def szOf : Cont → Nat
  | .cells _ => 0
  | .rows sig _ => sig.length
def Sit.grow (s : Sit) (arr : Array Value) (t : TypeId) (z : Nat) : Sit :=
  ⟨s.w.alloc (.cells arr t), s.base ++ [(some ⟨s.w.heap.size, 0, none⟩, z)], fun b => s.own b ∨ b = s.w.heap.size, s.hid⟩
def ContIn (s : Sit) (arr : Array Value) : Cont → Prop
  | .cells l => VRels s l arr.toList
  | .rows sig l => 0 < sig.length ∧ DIn s sig (fun j => arr[j]?) (l ())
theorem heap_alloc_lt {w : World} {o : Go.Obj} {b : Nat} (h : b < w.heap.size) : (w.alloc o).heap[b]? = w.heap[b]? := by
  show (w.heap.push o)[b]? = _
  rw [Array.getElem?_push, if_neg (by omega)]
theorem shape_congr {w w' : World} {b : Nat} (h : w'.heap[b]? = w.heap[b]?) : w'.shape? b = w.shape? b := by
  simp [World.shape?, h]
theorem grow_ev (s : Sit) (arr : Array Value) (t : TypeId) (z : Nat) : Ev s (s.grow arr t z) where
  size := by simp [Sit.grow]
  keep b hb _ := heap_alloc_lt hb
  shape b hb := shape_congr (heap_alloc_lt hb)
  own b h := by rcases h with h | h; exact .inl h; exact .inr (by omega)
  hid := rfl
  wos := rfl
  wout := rfl
theorem grow_ok {s : Sit} {h : Heap} (hh : HRel s h) {arr : Array Value} {c : Cont} (t : TypeId) (hc : ContIn s arr c) : HRel (s.grow arr t (szOf c)) (h ++ [some ⟨true, c⟩]) := by
  have hE := grow_ev s arr t (szOf c)
  have hp : s.base <+: (s.grow arr t (szOf c)).base := ⟨_, rfl⟩
  have hlen := hh.len
  have old : ∀ j x, nth (h ++ [some (⟨true, c⟩ : Obj)]) j = some (some x) → (j < h.length ∧ nth h j = some (some x)) ∨ (j = h.length ∧ x = ⟨true, c⟩) := by
    intro j x hx
    rw [nth_append] at hx
    split at hx
    · exact .inl ⟨‹_›, hx⟩
    · have := nth_some_lt hx
      simp at this
      obtain rfl : j = h.length := by omega
      simp [nth] at hx
      exact .inr ⟨rfl, hx.symm⟩
  have bnew : nth (s.grow arr t (szOf c)).base h.length = some (some ⟨s.w.heap.size, 0, none⟩, szOf c) := by
    simp only [Sit.grow]
    rw [nth_append, if_neg (by omega), hlen]
    simp [nth]
  have bold : ∀ j, j < h.length → nth (s.grow arr t (szOf c)).base j = nth s.base j := by
    intro j hj
    simp only [Sit.grow]
    rw [nth_append, if_pos (by omega)]
  refine ⟨by simp [Sit.grow, hlen], ?_, ?_, ?_, ?_, ?_, hh.fix.ev hE⟩
  · intro j x hx
    rcases old j x hx with ⟨hj, hx⟩ | ⟨rfl, rfl⟩
    · refine (hh.obj j x hx).keep hE hp (fun ad sz hb => ?_) fun b hb _ _ => .inl hb
      exact heap_alloc_lt ((hh.obj j x hx).block hb).1.1
    · refine ⟨_, _, bnew, ?_⟩
      have mem : ∀ n, (s.grow arr t (szOf c)).mem ⟨s.w.heap.size, 0, none⟩ n = arr[n]? := fun n => by simp [Sit.mem, Sit.grow]
      have fl : Flags (s.grow arr t (szOf c)) true s.w.heap.size := by
        refine ⟨by simp [Sit.grow], .inr rfl, fun o => by simp [Sit.grow]⟩
      cases c with
      | cells l =>
        refine ⟨_, rfl, rfl, fun j a ha => ?_, fl⟩
        obtain ⟨v, hv, hr⟩ := VRels.nth hc ha
        exact ⟨v, by rw [mem]; simpa using hv, VRel.mono hE hp _ _ hr⟩
      | rows sig l =>
        refine ⟨rfl, hc.1, .inr ⟨_, rfl, rfl, DIn.mono hE hc.2 (fun n => mem n), fl⟩⟩
  · intro j k o q a b z y hj hk hm hm' ha hb hab
    rcases old j o hj with ⟨hj1, hj2⟩ | ⟨rfl, rfl⟩
    · rcases old k q hk with ⟨hk1, hk2⟩ | ⟨rfl, rfl⟩
      · rw [bold j hj1] at ha
        rw [bold k hk1] at hb
        exact hh.inj j k o q a b z y hj2 hk2 hm hm' ha hb hab
      · rw [bold j hj1] at ha
        rw [bnew] at hb
        simp at hb
        have := ((hh.obj j o hj2).block ha).1.1
        rw [hab, ← hb.1] at this
        exact absurd this (by simp)
    · rcases old k q hk with ⟨hk1, hk2⟩ | ⟨rfl, rfl⟩
      · rw [bold k hk1] at hb
        rw [bnew] at ha
        simp at ha
        have := ((hh.obj k q hk2).block hb).1.1
        rw [← hab, ← ha.1] at this
        exact absurd this (by simp)
      · rfl
  · rintro b (hb | rfl)
    · have := hh.ownlt b hb
      simp only [Sit.grow, World.size_alloc]; omega
    · simp [Sit.grow]
  · intro b hb
    have := hh.hidlt b hb
    simp only [Sit.grow, World.size_alloc]; omega
  · rintro b (hb | rfl) hb'
    · exact hh.apart b hb hb'
    · have := hh.hidlt _ hb'; omega
theorem grow_place {s : Sit} {h : Heap} (hh : HRel s h) (arr : Array Value) (t : TypeId) (z : Nat) : (s.grow arr t z).place (len h) 0 0 ⟨s.w.heap.size, 0, none⟩ := by
  refine ⟨⟨s.w.heap.size, 0, none⟩, z, ?_, rfl, by simp⟩
  simp only [Sit.grow]
  rw [len_eq, nth_append, hh.len, if_neg (by omega)]
  simp [nth]
theorem grow_un {s : Sit} {h : Heap} (hh : HRel s h) (arr : Array Value) (t : TypeId) (z : Nat) (o : Option Obj) (tc : List Tch) : Un s (s.grow arr t z) h (h ++ [o]) tc := by
  intro x _ hl
  obtain ⟨ob, ho⟩ := hl
  refine ⟨⟨ob, by rw [nth_append, if_pos (nth_some_lt ho)]; exact ho⟩, fun a ha => ?_⟩
  have : a.block < s.w.heap.size := by
    cases x with
    | obj b =>
      obtain ⟨ad, sz, h1, h2, _⟩ := ha
      rw [h2]; exact ((hh.obj b ob ho).block h1).1.1
    | cel b f n =>
      obtain ⟨ad, sz, h1, h2, _⟩ := ha
      rw [h2]; exact ((hh.obj b ob ho).block h1).1.1
  exact World.cell?_alloc_lt _ _ _ this

/-! ### cells written -/
theorem heap_setCells {b b' : Nat} (hb : b' ≠ b) : ∀ (vs : List Value) (o : Nat) (w : World), (w.setCells b o vs).heap[b']? = w.heap[b']?
  | [], _, _ => rfl
  | v :: vs, o, w => by
    rw [World.setCells, heap_setCells hb vs]
    simp [World.setCell, Array.getElem?_modify, Ne.symm hb]
theorem size_setCells {b : Nat} : ∀ (vs : List Value) (o : Nat) (w : World), (w.setCells b o vs).heap.size = w.heap.size
  | [], _, _ => rfl
  | v :: vs, o, w => by rw [World.setCells, size_setCells vs]; simp
theorem shape_setCell (w : World) (a : Addr) (v : Value) (b : Nat) : (w.setCell a v).shape? b = w.shape? b := by
  have h : (w.setCell a v).heap[b]? = if a.block = b then (w.heap[b]?).map (fun x => match x with | .cells c e f => .cells (if a.spot.isSome then c else c.setIfInBounds a.off v) e f | o => o) else w.heap[b]? := by
    simp only [World.setCell, Array.getElem?_modify]
    rfl
  unfold World.shape?
  rw [h]
  by_cases hb : a.block = b
  · rw [if_pos hb]
    cases w.heap[b]? with
    | none => rfl
    | some o =>
      cases o <;> simp only [Option.map_some]
      split <;> simp
  · rw [if_neg hb]
theorem shape_setCells {b c : Nat} : ∀ (vs : List Value) (o : Nat) (w : World), (w.setCells b o vs).shape? c = w.shape? c
  | [], _, _ => rfl
  | v :: vs, o, w => by rw [World.setCells, shape_setCells vs, shape_setCell]
def Sit.write (s : Sit) (b o : Nat) (vs : List Value) : Sit := { s with w := s.w.setCells b o vs }
theorem same_setCells {b : Nat} : ∀ (vs : List Value) (o : Nat) (w : World), (w.setCells b o vs).os = w.os ∧ (w.setCells b o vs).output = w.output
  | [], _, _ => ⟨rfl, rfl⟩
  | v :: vs, o, w => by
    have h := same_setCells (b := b) vs (o + 1) (w.setCell ⟨b, o, none⟩ v)
    exact ⟨h.1.trans rfl, h.2.trans rfl⟩
theorem write_ev {s : Sit} {b : Nat} (hb : s.own b) (o : Nat) (vs : List Value) : Ev s (s.write b o vs) where
  size := by simp [Sit.write, size_setCells]
  keep c hc hn := heap_setCells (fun e => hn (by rw [e]; exact hb)) vs o s.w
  shape c hc := shape_setCells vs o s.w
  own c h := .inl h
  hid := rfl
  wos := (same_setCells vs o s.w).1
  wout := (same_setCells vs o s.w).2
/-- what stands behind cells that are written over -/
theorem setCells_get {w : World} {b o : Nat} {vs : List Value} (hc : ∀ j, j < vs.length → (w.cell? ⟨b, o + j, none⟩).isSome = true) (n : Nat) :
    (w.setCells b o vs).cell? ⟨b, n, none⟩ = if o ≤ n ∧ n < o + vs.length then vs[n - o]? else w.cell? ⟨b, n, none⟩ := by
  by_cases hn : o ≤ n ∧ n < o + vs.length
  · rw [if_pos hn]
    have := World.cell?_setCells_in b vs o w hc (n - o) (by omega)
    rw [show o + (n - o) = n by omega] at this
    rw [this, List.getElem?_eq_getElem]
  · rw [if_neg hn]
    refine World.cell?_setCells_out b vs o w ⟨b, n, none⟩ fun _ _ => ?_
    simp only
    omega
/-- An owned object is written over: its new contents are told by what stands in memory behind the write. -/
theorem write_ok {s : Sit} {h : Heap} (hh : HRel s h) {b : Nat} {o : Obj} {c : Cont} {ad : Addr} {sz : Nat} (ho : nth h b = some (some o)) (hm : o.mt = true)
    (hb : nth s.base b = some (some ad, sz)) {off : Nat} {vs : List Value}
    (hc : match c with
      | .cells l => CellsIn s ((s.write ad.block off vs).mem ad) l
      | .rows sig l => sz = sig.length ∧ 0 < sig.length ∧ DIn s sig ((s.write ad.block off vs).mem ad) (l ())) :
    HRel (s.write ad.block off vs) (upd h b (some ⟨true, c⟩)) := by
  have hown : s.own ad.block := by
    have := ((hh.obj b o ho).block hb).1.2
    rw [hm] at this; exact this.1
  have hfro : ∀ x, s.w.frozen? ⟨ad.block, x, none⟩ = false := by
    have := ((hh.obj b o ho).block hb).1.2
    rw [hm] at this; exact this.2
  have hlt := ((hh.obj b o ho).block hb).1.1
  have hspot := ((hh.obj b o ho).block hb).2
  have hE := write_ev hown off vs
  have hp : s.base <+: (s.write ad.block off vs).base := prefix_refl' _
  have old : ∀ j x, nth (upd h b (some (⟨true, c⟩ : Obj))) j = some (some x) → (j ≠ b ∧ nth h j = some (some x)) ∨ (j = b ∧ x = ⟨true, c⟩) := by
    intro j x hx
    rw [nth_upd] at hx
    split at hx
    · rename_i e
      subst e
      rw [ho] at hx
      simp at hx
      exact .inr ⟨rfl, hx.symm⟩
    · exact .inl ⟨fun e => by simp_all, hx⟩
  have apart : ∀ j x ad' z, j ≠ b → nth h j = some (some x) → nth s.base j = some (some ad', z) → ad'.block ≠ ad.block := by
    intro j x ad' z hj hx hb' e
    cases hmx : x.mt with
    | true => exact hj (hh.inj j b x o ad' ad z sz hx ho hmx hm hb' hb e)
    | false =>
      have := ((hh.obj j x hx).block hb').1.2
      rw [hmx, e] at this
      exact this hown
  refine ⟨by rw [upd_eq]; simpa [Sit.write] using hh.len, ?_, ?_, fun b' hb' => ?_, fun b' hb' => ?_, fun b' => hh.apart b', hh.fix.ev hE⟩
  · intro j x hx
    rcases old j x hx with ⟨hj, hx⟩ | ⟨rfl, rfl⟩
    · refine (hh.obj j x hx).keep hE hp (fun ad' z hb' => ?_) fun b hb _ _ => hb
      exact heap_setCells (apart j x ad' z hj hx hb') vs off s.w
    · refine ⟨_, _, hb, ?_⟩
      have fl : Flags (s.write ad.block off vs) true ad.block := by
        refine ⟨by simpa [Sit.write, size_setCells] using hlt, hown, fun x => ?_⟩
        simp only [Sit.write, World.frozen?_setCells]
        exact hfro x
      cases c with
      | cells l => exact ⟨ad, rfl, hspot, hc.mono hE hp fun _ => rfl, fl⟩
      | rows sig l => exact ⟨hc.1, hc.2.1, .inr ⟨ad, rfl, hspot, hc.2.2.mono hE fun _ => rfl, fl⟩⟩
  · intro j k x q a a' z y hj hk hmx hmq ha ha' haa
    rcases old j x hj with ⟨hj1, hj2⟩ | ⟨rfl, rfl⟩
    · rcases old k q hk with ⟨hk1, hk2⟩ | ⟨rfl, rfl⟩
      · exact hh.inj j k x q a a' z y hj2 hk2 hmx hmq ha ha' haa
      · exact hh.inj j k x o a a' z y hj2 ho hmx hm ha ha' haa
    · rcases old k q hk with ⟨hk1, hk2⟩ | ⟨rfl, rfl⟩
      · exact hh.inj j k o q a a' z y ho hk2 hm hmq ha ha' haa
      · rfl
  · simp only [Sit.write, size_setCells]; exact hh.ownlt b' hb'
  · simp only [Sit.write, size_setCells]; exact hh.hidlt b' hb'
theorem write_live {h : Heap} {b : Nat} {o : Obj} (ho : nth h b = some (some o)) (x : Obj) {j : Nat} (hj : Live h j) : Live (upd h b (some x)) j := by
  obtain ⟨q, hq⟩ := hj
  unfold Live
  rw [nth_upd]
  split
  · rw [hq]; exact ⟨x, rfl⟩
  · exact ⟨q, hq⟩
/-- a write to an owned object leaves the other objects' cells as they were -/
theorem write_other {s : Sit} {h : Heap} (hh : HRel s h) {b : Nat} {o : Obj} {ad : Addr} {sz : Nat} (ho : nth h b = some (some o)) (hm : o.mt = true)
    (hb : nth s.base b = some (some ad, sz)) {off : Nat} {vs : List Value} {j : Nat} (hj : j ≠ b) (hl : Live h j) {ad' : Addr} {z : Nat} (hb' : nth s.base j = some (some ad', z)) {a : Addr}
    (ha : a.block = ad'.block) (hsp : a.spot = none) : (s.write ad.block off vs).w.cell? a = s.w.cell? a := by
  obtain ⟨x, hx⟩ := hl
  have hne : ad'.block ≠ ad.block := by
    intro e
    cases hmx : x.mt with
    | true => exact hj (hh.inj j b x o ad' ad z sz hx ho hmx hm hb' hb e)
    | false =>
      have h1 := ((hh.obj j x hx).block hb').1.2
      have h2 := ((hh.obj b o ho).block hb).1.2
      rw [hmx, e] at h1
      rw [hm] at h2
      exact h1 h2.1
  obtain ⟨ab, ao, asp⟩ := a
  simp only at ha hsp
  subst hsp
  refine cell?_congr ?_ _
  exact heap_setCells (by rw [ha]; exact hne) vs off s.w
theorem write_un {s : Sit} {h : Heap} (hh : HRel s h) {b : Nat} {o : Obj} {ad : Addr} {sz : Nat} (ho : nth h b = some (some o)) (hm : o.mt = true)
    (hb : nth s.base b = some (some ad, sz)) {off : Nat} {vs : List Value} (x : Obj) (tc : List Tch) (ht : (.obj b) ∈ tc ∨ ∃ f n, (.cel b f n) ∈ tc ∧ off = ad.off + f ∧ vs.length = n) :
    Un s (s.write ad.block off vs) h (upd h b (some x)) tc := by
  have cl : ∀ (t u : Tch), u ∈ tc → clashes t tc = false → t.clash u = false := by
    intro t u hu hc
    clear ht
    induction tc with
    | nil => cases hu
    | cons y l ih =>
      simp only [clashes] at hc
      split at hc
      · cases hc
      · rename_i hy
        rcases List.mem_cons.1 hu with rfl | hu
        · exact hy
        · exact ih hu hc
  intro t hc hl
  refine ⟨write_live ho x hl, fun a ha => ?_⟩
  by_cases hj : t.id = b
  · rcases ht with ht | ⟨f, n, ht, h1, h2⟩
    · have := cl t _ ht hc
      cases t <;> (simp only [Tch.id] at hj; simp only [Tch.clash] at this; rw [hj, Nat.beq_refl] at this; cases this)
    · have := cl t _ ht hc
      cases t with
      | obj c => simp only [Tch.id] at hj; simp only [Tch.clash] at this; rw [hj, Nat.beq_refl] at this; cases this
      | cel c f' n' =>
        simp only [Tch.id] at hj
        subst hj
        obtain ⟨ad', z, g1, g2, g3, g4, g5⟩ := ha
        rw [hb] at g1
        simp at g1
        obtain ⟨rfl, rfl⟩ := g1
        obtain ⟨ab, ao, asp⟩ := a
        simp only at g2 g3 g4 g5
        subst g2; subst g3
        refine World.cell?_setCells_out ad.block vs off s.w _ fun _ _ => ?_
        simp only [Tch.clash, Nat.beq_refl] at this
        simp only
        split at this
        · rename_i hle
          have := Nat.le_of_ble_eq_true hle
          omega
        · split at this
          · rename_i hle
            have := Nat.le_of_ble_eq_true hle
            omega
          · cases this
  · cases t with
    | obj c =>
      obtain ⟨ad', z, g1, g2, g3⟩ := ha
      exact write_other hh ho hm hb hj hl g1 g2 g3
    | cel c f' n' =>
      obtain ⟨ad', z, g1, g2, g3, _⟩ := ha
      exact write_other hh ho hm hb hj hl g1 g2 g3
end Go.Sy
end
