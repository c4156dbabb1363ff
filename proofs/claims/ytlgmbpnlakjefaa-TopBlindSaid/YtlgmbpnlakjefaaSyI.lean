/- Soundness: plain operations, together. -/
import Derived.Test.YtlgmbpnlakjefaaSyH
namespace Go.Sy
set_option linter.unusedSimpArgs false
set_option linter.unusedVariables false
set_option linter.unusedSectionVars false
theorem zv (n : Nat) : (NX.l n).v = n := rfl
section
variable {P : Program} {T : Tab} (hT : TabOk P T) {s : Sit} {st : St} {a : Act} {K : AV → Prop}
include hT
theorem size_one {t : Nat} {d : TD} (hd : T t = some d) (ha : d.isAgg = false) : d.size = 1 := by
  obtain ⟨i, z, _, _, _, _, h1, _, _, h2⟩ := (hT t d hd).info
  rw [← h1, h2 ha]; rfl
theorem index_ok {t : Nat} {x : AV} {u : Value} {n : IX} {k : IntKind} (h : eIndex T t x n K) (hx : VRel s x u) : ValOk P s (Instr.index t u (.int k n.v)) K := by
  unfold eIndex ti at h
  split at h
  · rename_i d hd
    have hk := hT t d hd
    obtain ⟨desc, hu, hkd⟩ := hk.under
    split at h
    · rename_i m e hf
      rw [hf] at hkd
      simp only [KOk] at hkd
      subst hkd
      split at h
      · rename_i de hde
        have hke := hT e de hde
        have hrun : ∀ (cs : Array Value) (j : Int), 0 ≤ j → j < (m : Int) → ∀ w, (Instr.index t (.agg cs) (.int k j)).run P w = (Go.part e cs (j.toNat * de.size)).run P w := fun cs j h0 h1 w => by
          simp only [Instr.index, asIntOf, Sem.run_bind, Sem.run_pure, Result.andThen_ok, run_under hu]
          rw [if_pos ⟨h0, h1⟩]
          simp only [Sem.run_bind, hke.size, Result.andThen_ok]
        have one : ∀ (cs : Array Value) (off : Nat) (v : Value), de.isAgg = false → cs[off]? = some v → ∀ w, (Go.part e cs off).run P w = .ok v w := fun cs off v ha hv w => by
          simp [Go.part, hke.isAgg, ha, hv]
        split at h
        · rename_i j
          obtain ⟨h0, h1, h⟩ := inN_ok h
          simp only [IX.v, NX.v] at h0 h1
          split at h
          · rename_i cs
            simp only [VRel] at hx
            obtain ⟨cs', rfl, hx⟩ := hx
            obtain ⟨av, v, e1, e2, e3⟩ := partV_ok hT h hx
            exact ⟨av, v, fun w => by rw [show (IX.l j).v = j from rfl, hrun _ j h0 h1]; exact e1 w, e2, e3⟩
          · rename_i sig l _
            split at h
            · rename_i ha
              split at h
              · rename_i q _
                cases h with
                | mk hn h =>
                  simp only [VRel] at hx
                  obtain ⟨cs', rfl, hs, _, hx⟩ := hx
                  have hs1 := size_one hT hde ha
                  obtain ⟨r, hr⟩ := nth_of_lt (l := l ()) (i := j.toNat) (by omega)
                  have hrl := hx.1 _ _ hr
                  obtain ⟨dd, hdd⟩ := nth_of_lt (l := r) (i := 0) (by rw [hrl]; simp)
                  obtain ⟨v, hv, hvr⟩ := hx.2 _ 0 r q dd hr rfl hdd
                  refine ⟨_, v, fun w => ?_, ?_, h⟩
                  · rw [show (IX.l j).v = j from rfl, hrun _ j h0 h1, hs1]
                    exact one _ _ _ ha (by simpa using hv) w
                  · refine cellOf_rel ?_
                    rw [getD_of_nth hr, getD_of_nth hdd]
                    exact hvr
              · exact h.elim
            · exact h.elim
          · exact h.elim
        · rename_i j
          obtain ⟨h0, h1, h⟩ := inN_ok h
          simp only [IX.v, NX.v] at h0 h1
          split at h
          · rename_i sig hsig
            obtain ⟨l, cs', h, rfl, hsz, hn, hx⟩ := asRows_sound h hx
            split at h
            · rename_i ha
              split at h
              · rename_i q _
                have hs1 := size_one hT hde ha
                obtain ⟨r, hr⟩ := nth_of_lt (l := l ()) (i := (j ()).toNat) (by omega)
                have hrl := hx.1 _ _ hr
                obtain ⟨dd, hdd⟩ := nth_of_lt (l := r) (i := 0) (by rw [hrl]; simp)
                obtain ⟨v, hv, hvr⟩ := hx.2 _ 0 r q dd hr rfl hdd
                refine ⟨_, v, fun w => ?_, ?_, h⟩
                · rw [show (IX.t j).v = j () from rfl, hrun _ (j ()) h0 h1, hs1]
                  exact one _ _ _ ha (by simpa using hv) w
                · refine cellOf_rel ?_
                  rw [getD_of_nth hr, getD_of_nth hdd]
                  exact hvr
              · exact h.elim
            · rename_i ha
              split at h
              · rename_i hb
                have hb := Nat.eq_of_beq_eq_true hb
                rw [len_eq] at hb
                have hi : (j ()).toNat < (l ()).length := by omega
                have hle : (j ()).toNat * sig.length + sig.length ≤ cs'.size := by
                  rw [hsz, ← Nat.succ_mul]; exact Nat.mul_le_mul_right _ (by omega)
                refine ⟨_, .agg (cs'.extract ((j ()).toNat * de.size) ((j ()).toNat * de.size + de.size)), fun w => ?_, ?_, h⟩
                · rw [show (IX.t j).v = j () from rfl, hrun _ (j ()) h0 h1]
                  simp [Go.part, hke.isAgg, ha, hke.size]
                · simp only [VRel]
                  refine ⟨_, rfl, ?_⟩
                  rw [hb]
                  refine row_rel hx hi l rfl (by simp; omega) (fun q hq => ?_) _ rfl
                  rw [Array.getElem?_toList, Array.getElem?_extract]
                  rw [if_pos (by omega)]
              · exact h.elim
          · exact h.elim
      · exact h.elim
    · exact h.elim
  · exact h.elim

/-! ### slice expressions -/
theorem ixOf_ok {t : List AV} (ht : VRels s t a.tmps.toList) {o : Option Operand} {dflt : NX} {K : NX → Prop} (h : ixOf t o dflt K) :
    (o = none ∧ K dflt) ∨ ∃ x n k nx, o = some x ∧ a.eval x = .int k n ∧ 0 ≤ n ∧ nx.v = n.toNat ∧ K nx := by
  unfold ixOf at h
  split at h
  · exact .inl ⟨rfl, h⟩
  · rename_i x
    have hr := ev_rel ht x
    refine .inr ?_
    split at h
    · rename_i k n he
      rw [he] at hr
      simp only [VRel] at hr
      split at h
      · rename_i j
        split at h
        · rename_i hj
          exact ⟨x, j, k, _, rfl, hr, of_decide_eq_true hj, rfl, h⟩
        · exact h.elim
      · rename_i f
        cases h with
        | mk h1 h2 => exact ⟨x, f (), k, _, rfl, hr, h1, rfl, h2⟩
    · exact h.elim
theorem bound_run (k : IntKind) (i : Int) (y : Nat) (c : BoundsCode) (h0 : 0 ≤ i) (h1 : i.toNat ≤ y) (w : World) : (Instr.sliceBound (.int k i) y c).run P w = .ok i.toNat w := by
  simp only [Instr.sliceBound, asIntOf, Sem.run_bind, Sem.run_pure, Result.andThen_ok]
  rw [if_pos ⟨h0, by omega⟩]; rfl
/-- the three bounds, as they come out -/
theorem bounds_ok {tm : List AV} (ht : VRels s tm a.tmps.toList) {lo hi mx : Option Operand} {c n : NX} {K : NX → NX → NX → Prop} (isS : Bool) (ln cp : Nat) (hn : n.v = ln)
    (hc : c.v ≤ cp) (hmh : (match mx with | some _ => (match hi with | none => false | some _ => true) | none => true) = true)
    (h : ixOf tm mx c fun m => ixOf tm hi n fun u => ixOf tm lo (.l 0) fun l => leN m c fun _ => leN u m fun _ => leN l u fun _ => K l u m) :
    ∃ (l u m : NX) (m' : Nat), K l u m ∧ l.v ≤ u.v ∧ u.v ≤ m.v ∧ m.v ≤ m' ∧ m' ≤ cp ∧ m.v ≤ c.v ∧ (mx ≠ none → m' = m.v) ∧ (mx = none → m' = cp ∧ m.v = c.v) ∧
      ∀ w, (Instr.sliceBounds isS ln cp (lo.map a.eval) (hi.map a.eval) (mx.map a.eval)).run P w = .ok (l.v, u.v, m') w := by
  rcases ixOf_ok hT ht h with ⟨rfl, hA⟩ | ⟨xm, im, km, m, rfl, em, h0m, hvm, hA⟩
  · rcases ixOf_ok hT ht hA with ⟨rfl, hB⟩ | ⟨xh, ih, kh, u, rfl, eh, h0h, hvh, hB⟩
    · rcases ixOf_ok hT ht hB with ⟨rfl, hC⟩ | ⟨xl, il, kl, l, rfl, el, h0l, hvl, hC⟩
      · obtain ⟨h1, hD⟩ := leN_ok hC
        obtain ⟨h2, hE⟩ := leN_ok hD
        obtain ⟨h3, hF⟩ := leN_ok hE
        exact ⟨_, _, _, cp, hF, h3, h2, hc, Nat.le_refl _, Nat.le_refl _, fun h => absurd rfl h, fun _ => ⟨rfl, rfl⟩, fun w => by simp only [Instr.sliceBounds, Option.map_none, Sem.run_bind, Sem.run_pure, Result.andThen_ok, zv, hn]⟩
      · obtain ⟨h1, hD⟩ := leN_ok hC
        obtain ⟨h2, hE⟩ := leN_ok hD
        obtain ⟨h3, hF⟩ := leN_ok hE
        refine ⟨_, _, _, cp, hF, h3, h2, hc, Nat.le_refl _, Nat.le_refl _, fun h => absurd rfl h, fun _ => ⟨rfl, rfl⟩, fun w => ?_⟩
        simp only [Instr.sliceBounds, Option.map_none, Option.map_some, Sem.run_bind, Sem.run_pure, Result.andThen_ok, el, bound_run hT kl il ln _ h0l (by omega), hvl, Option.isSome_none, hn, zv]
        try rfl
    · rcases ixOf_ok hT ht hB with ⟨rfl, hC⟩ | ⟨xl, il, kl, l, rfl, el, h0l, hvl, hC⟩
      · obtain ⟨h1, hD⟩ := leN_ok hC
        obtain ⟨h2, hE⟩ := leN_ok hD
        obtain ⟨h3, hF⟩ := leN_ok hE
        refine ⟨_, _, _, cp, hF, h3, h2, hc, Nat.le_refl _, Nat.le_refl _, fun h => absurd rfl h, fun _ => ⟨rfl, rfl⟩, fun w => ?_⟩
        simp only [Instr.sliceBounds, Option.map_none, Option.map_some, Sem.run_bind, Sem.run_pure, Result.andThen_ok, eh, bound_run hT kh ih cp _ h0h (by omega), hvh, Option.isSome_none, Option.isSome_some, zv]
        try rfl
      · obtain ⟨h1, hD⟩ := leN_ok hC
        obtain ⟨h2, hE⟩ := leN_ok hD
        obtain ⟨h3, hF⟩ := leN_ok hE
        refine ⟨_, _, _, cp, hF, h3, h2, hc, Nat.le_refl _, Nat.le_refl _, fun h => absurd rfl h, fun _ => ⟨rfl, rfl⟩, fun w => ?_⟩
        simp only [Instr.sliceBounds, Option.map_none, Option.map_some, Sem.run_bind, Sem.run_pure, Result.andThen_ok, eh, bound_run hT kh ih cp _ h0h (by omega), el, bound_run hT kl il ih.toNat _ h0l (by omega), hvh, hvl, Option.isSome_none, Option.isSome_some, zv]
        try rfl
  · rcases ixOf_ok hT ht hA with ⟨rfl, hB⟩ | ⟨xh, ih, kh, u, rfl, eh, h0h, hvh, hB⟩
    · simp at hmh
    · rcases ixOf_ok hT ht hB with ⟨rfl, hC⟩ | ⟨xl, il, kl, l, rfl, el, h0l, hvl, hC⟩
      · obtain ⟨h1, hD⟩ := leN_ok hC
        obtain ⟨h2, hE⟩ := leN_ok hD
        obtain ⟨h3, hF⟩ := leN_ok hE
        refine ⟨_, _, _, m.v, hF, h3, h2, Nat.le_refl _, by omega, h1, fun _ => rfl, (fun h => by cases h), fun w => ?_⟩
        simp only [Instr.sliceBounds, Option.map_none, Option.map_some, Sem.run_bind, Sem.run_pure, Result.andThen_ok, em, bound_run hT km im cp _ h0m (by omega), eh, bound_run hT kh ih im.toNat _ h0h (by omega), hvh, hvm, zv]
        try rfl
      · obtain ⟨h1, hD⟩ := leN_ok hC
        obtain ⟨h2, hE⟩ := leN_ok hD
        obtain ⟨h3, hF⟩ := leN_ok hE
        refine ⟨_, _, _, m.v, hF, h3, h2, Nat.le_refl _, by omega, h1, fun _ => rfl, (fun h => by cases h), fun w => ?_⟩
        simp only [Instr.sliceBounds, Option.map_none, Option.map_some, Sem.run_bind, Sem.run_pure, Result.andThen_ok, em, bound_run hT km im cp _ h0m (by omega), eh, bound_run hT kh ih im.toNat _ h0h (by omega), el, bound_run hT kl il ih.toNat _ h0l (by omega), hvh, hvm, hvl]
        try rfl
end
end Go.Sy
