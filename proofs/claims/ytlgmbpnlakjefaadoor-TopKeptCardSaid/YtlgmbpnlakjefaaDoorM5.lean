/- Put together by a program of this work out of its texts SyL, SyM, SyN. -/
import Derived.Test.YtlgmbpnlakjefaaDoorM4
import Derived.Laws.Append
section
/- Soundness: loads and stores. -/
namespace Go.Sy
set_option linter.unusedSimpArgs false
set_option linter.unusedVariables false
set_option linter.unusedSectionVars false

theorem nth_set {α : Type} {l : List α} {i k : Nat} {a x : α} (h : nth (l.set i a) k = some x) : (k = i ∧ x = a) ∨ (k ≠ i ∧ nth l k = some x) := by
  rw [nth_eq, List.getElem?_set] at h
  by_cases hk : i = k
  · rw [if_pos hk] at h
    split at h
    · simp at h; exact .inl ⟨hk.symm, h.symm⟩
    · cases h
  · rw [if_neg hk] at h
    exact .inr ⟨fun e => hk e.symm, by rw [nth_eq]; exact h⟩
theorem pickVals {s : Sit} {g : Nat → Option Value} : ∀ (cs : List AV) (o : Nat), (∀ j a, nth cs j = some a → ∃ v, g (o + j) = some v ∧ VRel s a v) →
    ∃ vs : List Value, VRels s cs vs ∧ ∀ (j : Nat) v, vs[j]? = some v → g (o + j) = some v
  | [], o, _ => ⟨[], by simp [VRels], fun j v h => by simp at h⟩
  | a :: cs, o, h => by
    obtain ⟨v, hv, hr⟩ := h 0 a rfl
    obtain ⟨vs, h1, h2⟩ := pickVals cs (o + 1) (fun j b hb => by
      obtain ⟨u, hu, hur⟩ := h (j + 1) b (by simpa [nth] using hb)
      exact ⟨u, by rw [show o + 1 + j = o + (j + 1) by omega]; exact hu, hur⟩)
    refine ⟨v :: vs, by simp only [VRels]; exact ⟨v, vs, rfl, hr, h1⟩, fun j u hu => ?_⟩
    cases j with
    | zero => simp at hu; subst hu; exact hv
    | succ j => rw [show o + (j + 1) = o + 1 + j by omega]; exact h2 j u (by simpa using hu)
theorem pickAll {g : Nat → Option Value} : ∀ (n o : Nat), (∀ j, j < n → ∃ v, g (o + j) = some v) → ∃ vs : List Value, vs.length = n ∧ ∀ j, j < n → vs[j]? = g (o + j)
  | 0, o, _ => ⟨[], rfl, fun j h => by omega⟩
  | n + 1, o, h => by
    obtain ⟨v, hv⟩ := h 0 (by omega)
    obtain ⟨vs, h1, h2⟩ := pickAll n (o + 1) (fun j hj => by
      obtain ⟨u, hu⟩ := h (j + 1) (by omega)
      exact ⟨u, by rw [show o + 1 + j = o + (j + 1) by omega]; exact hu⟩)
    refine ⟨v :: vs, by simp [h1], fun j hj => ?_⟩
    cases j with
    | zero => simpa using hv.symm
    | succ j =>
      rw [show o + (j + 1) = o + 1 + j by omega]
      simpa using h2 j (by omega)
theorem DIn.all {s : Sit} {sig : List Kd} {g : Nat → Option Value} {rows : List (List D)} (h : DIn s sig g rows) (h0 : 0 < sig.length) {j : Nat} (hj : j < rows.length * sig.length) : ∃ v, g j = some v := by
  have h1 : j / sig.length < rows.length := (Nat.div_lt_iff_lt_mul h0).2 hj
  have h2 := Nat.mod_lt j h0
  have := h.cell h1 h2
  rwa [Nat.div_add_mod' j sig.length] at this
theorem DIn.of_eq {s : Sit} {sig : List Kd} {g g' : Nat → Option Value} {rows : List (List D)} (h : DIn s sig g rows) (hg : ∀ j, j < rows.length * sig.length → g' j = g j) : DIn s sig g' rows :=
  ⟨h.1, fun i j r k d h1 h2 h3 => by
    obtain ⟨v, hv, hr⟩ := h.2 i j r k d h1 h2 h3
    refine ⟨v, ?_, hr⟩
    rw [hg, hv]
    have hi := nth_some_lt h1
    have hj := nth_some_lt h2
    have : (i + 1) * sig.length ≤ rows.length * sig.length := Nat.mul_le_mul_right _ hi
    rw [Nat.succ_mul] at this
    omega⟩
section
variable {P : Program} {T : Tab} (hT : TabOk P T) {s : Sit} {h : Heap} (hh : HRel s h)
include hT hh
theorem run_loadOne {t : Nat} {d : TD} (hd : T t = some d) (ha : d.isAgg = false) {ad : Addr} {v : Value} {w : World} (hv : w.cell? ad = some v) : (Instr.loadAt t (.pointer (some ad))).run P w = .ok v w := by
  simp [Instr.loadAt, Instr.sureAddr, loadVar, (hT t d hd).isAgg, ha, hv]
theorem run_loadAgg {t : Nat} {d : TD} (hd : T t = some d) (ha : d.isAgg = true) {ad : Addr} (hs : ad = ⟨ad.block, ad.off, none⟩) {vs : List Value} {w : World} (hl : vs.length = d.size)
    (hv : ∀ (j : Nat) v, vs[j]? = some v → w.cell? ⟨ad.block, ad.off + j, none⟩ = some v) : (Instr.loadAt t (.pointer (some ad))).run P w = .ok (.agg vs.toArray) w := by
  have := run_loadCells_list (P := P) w ad vs (fun j v hj => by rw [add_none hT hs]; exact hv j v hj)
  simp only [Instr.loadAt, Instr.sureAddr, Sem.run_bind, Sem.run_pure, Result.andThen_ok, loadVar, (hT t d hd).isAgg, ha, if_true, (hT t d hd).size, ← hl, this]
/-- an object that is addressed -/
theorem obj_at {b i f : Nat} {ad : Addr} (hp : s.place b i f ad) {o : Obj} (ho : nth h b = some (some o)) : ∃ a sz, nth s.base b = some (some a, sz) ∧ a.spot = none ∧ ad = ⟨a.block, a.off + (i * sz + f), none⟩ ∧
    Flags s o.mt a.block ∧ match o.c with
      | .cells l => CellsIn s (s.mem a) l
      | .rows sig l => sz = sig.length ∧ 0 < sig.length ∧ DIn s sig (s.mem a) (l ()) := by
  obtain ⟨a, sz, h1, h2, h3⟩ := hp
  obtain ⟨ab, sz', g1, g2⟩ := hh.obj b o ho
  rw [h1] at g1
  simp at g1
  obtain ⟨rfl, rfl⟩ := g1
  refine ⟨a, sz, h1, h2, h3, ?_⟩
  cases hc : o.c with
  | cells l =>
    rw [hc] at g2
    obtain ⟨ad', e, _, g3, g4⟩ := g2
    simp at e; subst e
    exact ⟨g4, g3⟩
  | rows sig l =>
    rw [hc] at g2
    obtain ⟨rfl, g3, g4⟩ := g2
    rcases g4 with ⟨e, _⟩ | ⟨ad', e, _, g5, g6⟩
    · cases e
    · simp at e; subst e
      exact ⟨g6, rfl, g3, g5⟩
theorem eLoad_ok {t : Nat} {x : AV} {u : Value} {K : AV → Tch → Prop} (hl : eLoad T t x h K) (hx : VRel s x u) :
    ∃ av v r, (∀ w', (∀ a, Foot s r a → w'.cell? a = s.w.cell? a) → (Instr.loadAt t u).run P w' = .ok v w') ∧ VRel s av v ∧ K av r ∧ Live h r.id := by
  unfold eLoad at hl
  split at hl
  · rename_i b i f
    simp only [VRel] at hx
    obtain ⟨ad, hp, rfl⟩ := hx
    split at hl
    · rename_i o ho
      obtain ⟨a0, sz, hb, hsp, had, hfl, hcont⟩ := obj_at hT hh hp ho
      unfold ti at hl
      split at hl
      · rename_i d hd
        split at hl
        · rename_i l hc
          rw [hc] at hcont
          split at hl
          · split at hl
            · rename_i f0
              simp only [zv, Nat.zero_mul, Nat.zero_add] at had
              subst had
              split at hl
              · rename_i ha
                split at hl
                · rename_i cs hcs
                  obtain ⟨g1, rfl⟩ := part_some hcs
                  obtain ⟨vs, e1, e2⟩ := pickVals (s := s) (g := s.mem a0) ((l.drop f0).take d.size) f0 (fun j a ha => by
                    rw [nth_eq, List.getElem?_take] at ha
                    split at ha
                    · rw [List.getElem?_drop, ← nth_eq] at ha
                      exact hcont _ _ ha
                    · cases ha)
                  have hvl : vs.length = d.size := by rw [e1.length]; simp; omega
                  refine ⟨_, .agg vs.toArray, _, fun w' hw => ?_, by simp only [VRel]; exact ⟨_, rfl, e1⟩, hl, ⟨o, ho⟩⟩
                  refine run_loadAgg hT hh hd ha rfl hvl fun j v hj => ?_
                  have hjl : j < d.size := by rw [← hvl]; exact (List.getElem?_eq_some_iff.1 hj).1
                  show w'.cell? ⟨a0.block, a0.off + f0 + j, none⟩ = some v
                  rw [hw ⟨a0.block, a0.off + f0 + j, none⟩ ⟨a0, sz, hb, rfl, rfl, by simp only; omega, by simp only; omega⟩]
                  have := e2 j v hj
                  simpa [Sit.mem, Nat.add_assoc] using this
                · exact hl.elim
              · rename_i ha
                split at hl
                · rename_i v hv
                  obtain ⟨y, hy, hyr⟩ := hcont _ _ hv
                  refine ⟨_, y, _, fun w' hw => ?_, hyr, hl, ⟨o, ho⟩⟩
                  refine run_loadOne hT hh hd ha ?_
                  rw [hw ⟨a0.block, a0.off + f0, none⟩ ⟨a0, sz, hb, rfl, rfl, by simp, by simp⟩]
                  exact hy
                · exact hl.elim
            · rename_i f0
              simp only [zv, Nat.zero_mul, Nat.zero_add] at had
              split at hl
              · exact hl.elim
              · rename_i ha
                obtain ⟨lo, n, hl⟩ := hl
                unfold cellAny at hl
                split at hl
                · rename_i cs hcs
                  obtain ⟨g1, g2⟩ := part_some hcs
                  split at hl
                  · rename_i c0 cs'
                    split at hl
                    · rename_i k hk
                      split at hl
                      · rename_i hfit
                        cases hl with
                        | mk hin hl =>
                          obtain ⟨vs, e1, e2⟩ := pickVals (s := s) (g := s.mem a0) (c0 :: cs') lo (fun j a ha => by
                            rw [g2, nth_eq, List.getElem?_take] at ha
                            split at ha
                            · rw [List.getElem?_drop, ← nth_eq] at ha
                              exact hcont _ _ ha
                            · cases ha)
                          obtain ⟨f1, f2, f3⟩ := fits_rel n _ vs hfit e1
                          obtain ⟨r, hr⟩ := nth_of_lt (l := rowsOf 1 n (c0 :: cs')) (i := f0 () - lo) (by rw [show ([k] : List Kd).length = 1 from rfl] at f2; rw [f2]; omega)
                          obtain ⟨dd, hdd⟩ := nth_of_lt (l := r) (i := 0) (by rw [f3.1 _ r hr]; simp)
                          obtain ⟨v, hv, hvr⟩ := f3.2 _ 0 r k dd hr rfl hdd
                          refine ⟨_, v, _, fun w' hw => ?_, ?_, hl, ⟨o, ho⟩⟩
                          · refine run_loadOne hT hh hd ha ?_
                            subst had
                            simp only [NX.v]
                            rw [hw ⟨a0.block, a0.off + f0 (), none⟩ ⟨a0, sz, hb, rfl, rfl, by simp only; omega, by simp only; omega⟩]
                            have := e2 _ v hv
                            simp only [Sit.mem, List.length_singleton, Nat.mul_one, Nat.add_zero] at this
                            rw [show a0.off + f0 () = a0.off + (lo + (f0 () - lo)) by omega]
                            exact this
                          · refine cellOf_rel ?_
                            simp only [nsub]
                            rw [getD_of_nth hr, getD_of_nth hdd]
                            exact hvr
                      · exact hl.elim
                    · exact hl.elim
                  · exact hl.elim
                · exact hl.elim
          · exact hl.elim
        · rename_i sig l hc
          rw [hc] at hcont
          obtain ⟨rfl, h0, hcont⟩ := hcont
          split at hl
          · rename_i j
            simp only [zv] at had
            split at hl
            · rename_i ha
              split at hl
              · rename_i k hk
                obtain ⟨_, hi, hl⟩ := inN_ok hl
                rw [ofNat_v] at hi
                simp only [NX.v] at hi
                have hi' : i.v < (l ()).length := by simpa [NX.v] using hi
                obtain ⟨r, hr⟩ := nth_of_lt hi'
                obtain ⟨dd, hdd⟩ := nth_of_lt (l := r) (i := j) (by rw [hcont.1 _ r hr]; exact nth_some_lt hk)
                obtain ⟨v, hv, hvr⟩ := hcont.2 _ j r k dd hr hk hdd
                refine ⟨_, v, _, fun w' hw => ?_, ?_, hl, ⟨o, ho⟩⟩
                · refine run_loadOne hT hh hd ha ?_
                  subst had
                  rw [hw ⟨a0.block, a0.off + (i.v * sig.length + j), none⟩ ⟨a0, _, hb, rfl, rfl⟩]
                  exact hv
                · refine cellOf_rel ?_
                  rw [getD_of_nth hr, getD_of_nth hdd]
                  exact hvr
              · exact hl.elim
            · rename_i ha
              split at hl
              · split at hl
                · rename_i n e hk
                  split at hl
                  · cases hl with
                    | mk hn hl =>
                      split at hl
                      · rename_i hsz
                        have hsz := Nat.eq_of_beq_eq_true hsz
                        rw [len_eq] at hsz
                        simp only [zv, Nat.zero_mul, Nat.add_zero] at had
                        obtain ⟨vs, e1, e2⟩ := pickAll (g := s.mem a0) (n * sig.length) 0 (fun j hj => by
                          rw [Nat.zero_add]; exact hcont.all h0 (by rw [hn]; exact hj))
                        refine ⟨_, .agg vs.toArray, _, fun w' hw => ?_, ?_, hl, ⟨o, ho⟩⟩
                        · subst had
                          refine run_loadAgg hT hh hd ha rfl (by rw [e1, hsz]) fun j v hj => ?_
                          have hjl : j < n * sig.length := by rw [← e1]; exact (List.getElem?_eq_some_iff.1 hj).1
                          show w'.cell? ⟨a0.block, a0.off + j, none⟩ = some v
                          rw [hw ⟨a0.block, a0.off + j, none⟩ ⟨a0, _, hb, rfl, rfl⟩]
                          rw [e2 j hjl, Nat.zero_add] at hj
                          simpa [Sit.mem] using hj
                        · simp only [VRel]
                          refine ⟨_, rfl, by simp [e1, hn], h0, hcont.of_eq fun j hj => ?_⟩
                          rw [hn] at hj
                          have := e2 j hj
                          rw [Nat.zero_add] at this
                          simpa using this
                      · exact hl.elim
                  · exact hl.elim
                · split at hl
                  · rename_i hsz
                    have hsz := Nat.eq_of_beq_eq_true hsz
                    rw [len_eq] at hsz
                    obtain ⟨_, hi, hl⟩ := inN_ok hl
                    rw [ofNat_v] at hi
                    have hi' : i.v < (l ()).length := by simpa [NX.v] using hi
                    obtain ⟨vs, e1, e2⟩ := pickAll (g := s.mem a0) sig.length (i.v * sig.length) (fun j hj => hcont.cell hi' hj)
                    refine ⟨_, .agg vs.toArray, _, fun w' hw => ?_, ?_, hl, ⟨o, ho⟩⟩
                    · subst had
                      refine run_loadAgg hT hh hd ha rfl (by rw [e1, hsz]) fun j v hj => ?_
                      have hjl : j < sig.length := by rw [← e1]; exact (List.getElem?_eq_some_iff.1 hj).1
                      rw [hw ⟨_, _, none⟩ ⟨a0, _, hb, rfl, rfl⟩]
                      rw [e2 j hjl] at hj
                      simpa [Sit.mem, Nat.add_assoc] using hj
                    · simp only [VRel]
                      exact ⟨_, rfl, row_rel hcont hi' l rfl e1 (fun j hj => by simpa using e2 j hj) _ rfl⟩
                  · exact hl.elim
              · exact hl.elim
          · exact hl.elim
      · exact hl.elim
    · exact hl.elim
  · exact hl.elim

/-! ### stores -/
theorem run_storeAt {t : Nat} {d : TD} (hd : T t = some d) {ad : Addr} (hs : ad = ⟨ad.block, ad.off, none⟩) {v : Value} (hv : v.cells.size = d.size) (h1 : ∀ x ∈ v.cells.toList, x.oneCell' = true) {w : World}
    (hc : ∀ j, j < d.size → (w.cell? ⟨ad.block, ad.off + j, none⟩).isSome = true) (hf : ∀ o, w.frozen? ⟨ad.block, o, none⟩ = false) :
    (Instr.storeAt t (.pointer (some ad)) v).run P w = .ok () (w.setCells ad.block ad.off v.cells.toList) := by
  have hst := run_storeCells_cells (P := P) ad.block ad.off v.cells.toList 0 w (fun j hj => by simpa using hc j (by simpa [hv] using hj)) (fun j _ => hf _) h1
  simp only [Nat.add_zero] at hst
  simp only [Instr.storeAt, Instr.sureAddr, Sem.run_bind, Sem.run_pure, Result.andThen_ok, storeVar, (hT t d hd).size, Sem.run_ite]
  rw [if_neg (by simp [hv])]
  rw [hs]
  exact hst
/-- the outcome of an effect -/
def EffOk (P : Program) (s : Sit) (h : Heap) (x : Sem Next) (K : AV → Heap → List Tch → Prop) : Prop :=
  ∃ s' av v h' tc n, x.run P s.w = .ok n s'.w ∧ (n = .value v ∨ n = .skip ∧ v = undef) ∧ Ev s s' ∧ s.base <+: s'.base ∧ HRel s' h' ∧ VRel s' av v ∧ Un s s' h h' tc ∧ K av h' tc
omit hT hh in
theorem undef_rel (s : Sit) : VRel s (.tuple []) undef := by simp [VRel, VRels, undef]
theorem flags_own {o : Obj} {b : Nat} (hm : o.mt = true) (hf : Flags s o.mt b) : s.own b ∧ ∀ x, s.w.frozen? ⟨b, x, none⟩ = false := by
  have := hf.2; rw [hm] at this; exact this
omit hT hh in
theorem run_unit {P : Program} {x : Sem Unit} {w w' : World} (h : x.run P w = .ok () w') : (do x; pure Next.skip : Sem Next).run P w = .ok .skip w' := by
  simp [h]
theorem eStore_ok {t : Nat} {x y : AV} {u z : Value} {K : Heap → Tch → Prop} (hl : eStore T t x y h K) (hx : VRel s x u) (hy : VRel s y z) :
    EffOk P s h (do Instr.storeAt t u z; pure Next.skip) (fun av h' tc => av = .tuple [] ∧ ∃ tch, tc = [tch] ∧ K h' tch) := by
  unfold eStore at hl
  split at hl
  · rename_i b i f
    simp only [VRel] at hx
    obtain ⟨ad, hp, rfl⟩ := hx
    split at hl
    · rename_i o ho
      obtain ⟨a0, sz, hb, hsp, had, hfl, hcont⟩ := obj_at hT hh hp ho
      split at hl
      · rename_i hm
        obtain ⟨hown, hfro⟩ := flags_own hT hh hm hfl
        unfold ti at hl
        split at hl
        · rename_i d hd
          -- what is common to all ways: the write, and what is owed behind it
          have fin : ∀ (c : Cont) (tch : Tch), z.cells.size = d.size → (∀ x ∈ z.cells.toList, x.oneCell' = true) → (∀ j, j < d.size → (s.w.cell? ⟨ad.block, ad.off + j, none⟩).isSome = true) →
              (match c with
                | .cells l => CellsIn s ((s.write a0.block ad.off z.cells.toList).mem a0) l
                | .rows sig l => sz = sig.length ∧ 0 < sig.length ∧ DIn s sig ((s.write a0.block ad.off z.cells.toList).mem a0) (l ())) →
              (tch = .obj b ∨ ∃ f, tch = .cel b f d.size ∧ ad.off = a0.off + f) → K (upd h b (some ⟨true, c⟩)) tch →
              EffOk P s h (do Instr.storeAt t (.pointer (some ad)) z; pure Next.skip) (fun av h' tc => av = .tuple [] ∧ ∃ tch, tc = [tch] ∧ K h' tch) := by
            intro c tch g1 g2 g3 g4 g5 g6
            have hab : ad.block = a0.block := by rw [had]
            refine ⟨s.write a0.block ad.off z.cells.toList, .tuple [], undef, _, [tch], .skip, ?_, .inr ⟨rfl, rfl⟩, write_ev hown _ _, prefix_refl' _, write_ok hh ho hm hb g4, undef_rel _, ?_, rfl, tch, rfl, g6⟩
            · refine run_unit ?_
              rw [run_storeAt hT hh hd (place_spot hT hp) g1 g2 g3 (by rw [hab]; exact hfro), hab]
              rfl
            · refine write_un hh ho hm hb _ _ ?_
              rcases g5 with rfl | ⟨f, rfl, g5⟩
              · exact .inl (by simp)
              · exact .inr ⟨f, d.size, by simp, g5, by simpa using g1⟩
          split at hl
          · rename_i l hc
            rw [hc] at hcont
            split at hl
            · split at hl
              · rename_i f0
                simp only [zv, Nat.zero_mul, Nat.zero_add] at had
                obtain ⟨d', cs, hd', hl, hcr, hcl, hone⟩ := cellsV_sound hl hy
                rw [hd] at hd'
                simp at hd'
                subst hd'
                split at hl
                · rename_i l' hl'
                  obtain ⟨p1, p2, p3⟩ := putAt_some hl'
                  have hzs : z.cells.size = d.size := by rw [← Array.length_toList, hcr.length, hcl]
                  have hex : ∀ j, j < d.size → (s.w.cell? ⟨ad.block, ad.off + j, none⟩).isSome = true := fun j hj => by
                    obtain ⟨x, hx⟩ := nth_of_lt (l := l) (i := f0 + j) (by omega)
                    obtain ⟨v, hv, _⟩ := hcont _ _ hx
                    subst had
                    simp only [Sit.mem] at hv
                    simp only [Nat.add_assoc, hv, Option.isSome_some]
                  refine fin (.cells l') _ hzs hone hex ?_ (.inr ⟨f0, rfl, by rw [had]⟩) hl
                  intro j x hjx
                  simp only [Sit.mem, Sit.write]
                  rw [setCells_get (fun j hj => by
                    have := hex j (by simpa [hzs] using hj)
                    rw [had] at this ⊢
                    exact this)]
                  rw [nth_eq, p3 j] at hjx
                  rw [had]
                  simp only [Array.length_toList, hzs]
                  split at hjx
                  · rename_i hj
                    rw [if_pos (by omega), show a0.off + j - (a0.off + f0) = j - f0 by omega]
                    rw [← nth_eq] at hjx
                    obtain ⟨v, hv, hr⟩ := hcr.nth hjx
                    exact ⟨v, hv, hr⟩
                  · rename_i hj
                    rw [if_neg (by omega)]
                    exact hcont j x (by rw [nth_eq]; exact hjx)
                · exact hl.elim
              · exact hl.elim
            · exact hl.elim
          · rename_i sig l hc
            rw [hc] at hcont
            obtain ⟨rfl, h0, hcont⟩ := hcont
            split at hl
            · rename_i j
              simp only [zv] at had
              split at hl
              · rename_i ha
                split at hl
                · rename_i k hk
                  split at hl
                  · rename_i k' hk'
                    split at hl
                    · rename_i hkk
                      have hkk := kdEq_eq hkk
                      subst hkk
                      obtain ⟨_, hi, hl⟩ := inN_ok hl
                      rw [ofNat_v] at hi
                      have hi' : i.v < (l ()).length := by simpa [NX.v] using hi
                      have hjl := nth_some_lt hk
                      have hd1 := size_one hT hd ha
                      have hdr := dOf_rel hk' hy
                      have hsc : scal y = true := by
                        cases y <;> first | rfl | (simp [kdOf] at hk')
                      have hz1 := scal_one hsc hy
                      have hzc := cells_of_one hz1
                      obtain ⟨old, hold⟩ := hcont.cell hi' hjl
                      have hex : ∀ j, j < d.size → (s.w.cell? ⟨ad.block, ad.off + j, none⟩).isSome = true := fun j' hj => by
                        rw [hd1] at hj
                        obtain rfl : j' = 0 := by omega
                        rw [had]
                        simp only [Sit.mem] at hold
                        simp [hold]
                      refine fin (.rows sig _) _ (by rw [hzc, hd1]; rfl) (by rw [hzc]; simpa using hz1) hex ⟨rfl, h0, ?_⟩ (.inl rfl) hl
                      obtain ⟨r, hr⟩ := nth_of_lt hi'
                      have hrl := hcont.1 _ r hr
                      have getR : (l ()).getD i.v [] = r := getD_of_nth hr
                      have get : ∀ n, (s.write a0.block ad.off z.cells.toList).mem a0 n = if n = i.v * sig.length + j then some z else s.mem a0 n := fun n => by
                        simp only [Sit.mem, Sit.write, hzc]
                        rw [setCells_get (fun j' hj' => by
                          simp at hj'
                          obtain rfl : j' = 0 := by omega
                          rw [had]
                          simp only [Sit.mem] at hold
                          simp [hold])]
                        rw [had]
                        simp only [List.length_cons, List.length_nil]
                        by_cases hn : n = i.v * sig.length + j
                        · rw [if_pos (by omega), if_pos hn, hn]; simp
                        · rw [if_neg (by omega), if_neg hn]
                      rw [getR]
                      refine ⟨fun i' r' hr' => ?_, fun i' j' r' k d' hr' hk2 hd2 => ?_⟩
                      · rcases nth_set hr' with ⟨_, rfl⟩ | ⟨_, hr'⟩
                        · simpa using hrl
                        · exact hcont.1 i' r' hr'
                      · rw [get]
                        have hj'l := nth_some_lt hk2
                        rcases nth_set hr' with ⟨rfl, rfl⟩ | ⟨hii, hr'⟩
                        · rcases nth_set hd2 with ⟨rfl, rfl⟩ | ⟨hjj, hd2⟩
                          · rw [if_pos rfl]
                            rw [hk] at hk2
                            simp at hk2; subst hk2
                            exact ⟨z, rfl, hdr⟩
                          · rw [if_neg (by omega)]
                            exact hcont.2 _ j' r k d' hr hk2 hd2
                        · have hne : i' * sig.length + j' ≠ i.v * sig.length + j := by
                            intro e
                            have e1 : (i' * sig.length + j') / sig.length = i' := by rw [Nat.add_comm, Nat.add_mul_div_right _ _ h0, Nat.div_eq_of_lt hj'l, Nat.zero_add]
                            have e2 : (i.v * sig.length + j) / sig.length = i.v := by rw [Nat.add_comm, Nat.add_mul_div_right _ _ h0, Nat.div_eq_of_lt hjl, Nat.zero_add]
                            rw [e, e2] at e1
                            exact hii e1.symm
                          rw [if_neg hne]
                          exact hcont.2 i' j' r' k d' hr' hk2 hd2
                    · exact hl.elim
                  · exact hl.elim
                · exact hl.elim
              · rename_i ha
                split at hl
                · split at hl
                  · rename_i n e hk
                    split at hl
                    · split at hl
                      · rename_i hsz
                        have hsz := Nat.eq_of_beq_eq_true hsz
                        rw [len_eq] at hsz
                        cases hl with
                        | mk hn hl =>
                          obtain ⟨l', a1, hl, rfl, hs1, hn1, hd1⟩ := asRows_sound hl hy
                          simp only [zv, Nat.zero_mul, Nat.add_zero] at had
                          have hex : ∀ j, j < d.size → (s.w.cell? ⟨ad.block, ad.off + j, none⟩).isSome = true := fun j hj => by
                            obtain ⟨v, hv⟩ := hcont.all h0 (j := j) (by rw [hn, ← hsz]; exact hj)
                            rw [had]
                            simp only [Sit.mem] at hv
                            simp [hv]
                          have hsc : ∀ x ∈ (Value.agg a1).cells.toList, x.oneCell' = true := fun x hx => by
                            simp only [Value.cells] at hx
                            obtain ⟨q, hq⟩ := List.mem_iff_getElem?.1 hx
                            have hql : q < n * sig.length := by rw [← hs1, ← Array.length_toList]; exact (List.getElem?_eq_some_iff.1 hq).1
                            have hqr : q / sig.length < (l' ()).length := by rw [hn1]; exact (Nat.div_lt_iff_lt_mul h0).2 hql
                            obtain ⟨r, hr⟩ := nth_of_lt hqr
                            obtain ⟨k, hk2⟩ := nth_of_lt (l := sig) (i := q % sig.length) (Nat.mod_lt _ h0)
                            obtain ⟨dd, hdd⟩ := nth_of_lt (l := r) (i := q % sig.length) (by rw [hd1.1 _ r hr]; exact Nat.mod_lt _ h0)
                            obtain ⟨v, hv, hvr⟩ := hd1.2 _ _ r k dd hr hk2 hdd
                            rw [Nat.div_add_mod'] at hv
                            simp only [Array.getElem?_toList] at hq
                            simp only [hq] at hv
                            simp at hv; subst hv
                            cases hvr <;> rfl
                          refine fin (.rows sig l') _ (by simp [Value.cells, hs1, hsz]) hsc hex ⟨rfl, h0, ?_⟩ (.inl rfl) hl
                          refine hd1.of_eq fun j hj => ?_
                          rw [hn1] at hj
                          simp only [Sit.mem, Sit.write]
                          rw [setCells_get (fun j' hj' => by
                            have := hex j' (by simpa [Value.cells, hs1, hsz] using hj')
                            rw [had] at this ⊢
                            exact this)]
                          rw [had]
                          rw [if_pos (by simp [Value.cells, hs1]; omega)]
                          simp [Value.cells]
                      · exact hl.elim
                    · exact hl.elim
                  · split at hl
                    · rename_i hsz
                      have hsz := Nat.eq_of_beq_eq_true hsz
                      rw [len_eq] at hsz
                      obtain ⟨l', a1, hl, rfl, hs1, hn1, hd1⟩ := asRows_sound hl hy
                      obtain ⟨_, hi, hl⟩ := inN_ok hl
                      rw [ofNat_v] at hi
                      have hi' : i.v < (l ()).length := by simpa [NX.v] using hi
                      simp only [Nat.add_zero] at had
                      have hex : ∀ j, j < d.size → (s.w.cell? ⟨ad.block, ad.off + j, none⟩).isSome = true := fun j hj => by
                        obtain ⟨v, hv⟩ := hcont.cell hi' (j := j) (by omega)
                        rw [had]
                        simp only [Sit.mem] at hv
                        simp [Nat.add_assoc, hv]
                      obtain ⟨r', hr'⟩ := nth_of_lt (l := l' ()) (i := 0) (by omega)
                      have hr'l := hd1.1 _ r' hr'
                      have hsc : ∀ x ∈ (Value.agg a1).cells.toList, x.oneCell' = true := fun x hx => by
                        simp only [Value.cells] at hx
                        obtain ⟨q, hq⟩ := List.mem_iff_getElem?.1 hx
                        have hql : q < sig.length := by
                          have := (List.getElem?_eq_some_iff.1 hq).1
                          simp only [Array.length_toList, hs1] at this; omega
                        obtain ⟨k, hk2⟩ := nth_of_lt (l := sig) (i := q) hql
                        obtain ⟨dd, hdd⟩ := nth_of_lt (l := r') (i := q) (by omega)
                        obtain ⟨v, hv, hvr⟩ := hd1.2 _ _ r' k dd hr' hk2 hdd
                        simp only [Array.getElem?_toList] at hq
                        simp only [Nat.zero_mul, Nat.zero_add, hq] at hv
                        simp at hv; subst hv
                        cases hvr <;> rfl
                      refine fin (.rows sig _) _ (by simp [Value.cells, hs1, hsz]) hsc hex ⟨rfl, h0, ?_⟩ (.inl rfl) hl
                      have getR : (l' ()).getD 0 [] = r' := getD_of_nth hr'
                      have get : ∀ n, (s.write a0.block ad.off (Value.agg a1).cells.toList).mem a0 n = if i.v * sig.length ≤ n ∧ n < i.v * sig.length + sig.length then a1[n - i.v * sig.length]? else s.mem a0 n := fun n => by
                        simp only [Sit.mem, Sit.write]
                        rw [setCells_get (fun j' hj' => by
                          have := hex j' (by simpa [Value.cells, hs1, hsz] using hj')
                          rw [had] at this ⊢
                          exact this)]
                        rw [had]
                        simp only [Value.cells, Array.length_toList, hs1, Nat.one_mul]
                        by_cases hn : i.v * sig.length ≤ n ∧ n < i.v * sig.length + sig.length
                        · rw [if_pos (by omega), if_pos hn, show a0.off + n - (a0.off + i.v * sig.length) = n - i.v * sig.length by omega]; simp
                        · rw [if_neg (by omega), if_neg hn]
                      rw [getR]
                      refine ⟨fun i' r2 hr2 => ?_, fun i' j' r2 k d' hr2 hk2 hd2 => ?_⟩
                      · rcases nth_set hr2 with ⟨_, rfl⟩ | ⟨_, hr2⟩
                        · exact hr'l
                        · exact hcont.1 i' r2 hr2
                      · rw [get]
                        have hj'l := nth_some_lt hk2
                        rcases nth_set hr2 with ⟨rfl, rfl⟩ | ⟨hii, hr2⟩
                        · rw [if_pos (by omega), show i.v * sig.length + j' - i.v * sig.length = j' by omega]
                          obtain ⟨v, hv, hvr⟩ := hd1.2 0 j' _ k d' hr' hk2 hd2
                          exact ⟨v, by simpa using hv, hvr⟩
                        · have hne : ¬ (i.v * sig.length ≤ i' * sig.length + j' ∧ i' * sig.length + j' < i.v * sig.length + sig.length) := by
                            rintro ⟨e1, e2⟩
                            rcases Nat.lt_trichotomy i' i.v with hlt | heq | hgt
                            · have : (i' + 1) * sig.length ≤ i.v * sig.length := Nat.mul_le_mul_right _ hlt
                              rw [Nat.succ_mul] at this; omega
                            · exact hii heq
                            · have : (i.v + 1) * sig.length ≤ i' * sig.length := Nat.mul_le_mul_right _ hgt
                              rw [Nat.succ_mul] at this; omega
                          rw [if_neg hne]
                          exact hcont.2 i' j' r2 k d' hr2 hk2 hd2
                    · exact hl.elim
                · exact hl.elim
            · exact hl.elim
        · exact hl.elim
      · exact hl.elim
    · exact hl.elim
  · exact hl.elim
end
end Go.Sy
end

section
/- Soundness: what makes memory. -/
namespace Go.Sy
set_option linter.unusedSimpArgs false
set_option linter.unusedVariables false
set_option linter.unusedSectionVars false

def Sit.drew (s : Sit) : Sit := { s with w := s.w.drew }
theorem drew_ev (s : Sit) : Ev s s.drew := ⟨Nat.le_refl _, fun _ _ _ => rfl, fun _ _ => rfl, fun _ h => .inl h, rfl, rfl, rfl⟩
theorem drew_ok {s : Sit} {h : Heap} (hh : HRel s h) : HRel s.drew h where
  len := hh.len
  obj j o ho := (hh.obj j o ho).keep (drew_ev s) (prefix_refl' _) (fun _ _ _ => rfl) fun _ hb _ _ => hb
  inj := hh.inj
  ownlt := hh.ownlt
  hidlt := hh.hidlt
  apart := hh.apart
  fix := hh.fix.ev (drew_ev s)
theorem drew_un {s : Sit} {h : Heap} (tc : List Tch) : Un s s.drew h h tc := fun _ _ hl => ⟨hl, fun _ _ => rfl⟩
theorem Un.trans {s s' s'' : Sit} {h h' h'' : Heap} {tc tc' : List Tch} (hp : s.base <+: s'.base) (h1 : Un s s' h h' tc) (h2 : Un s' s'' h' h'' tc') (hc : ∀ t, clashes t tc = false → clashes t tc' = false) :
    Un s s'' h h'' tc := fun t ht hl => by
  obtain ⟨g1, g2⟩ := h1 t ht hl
  obtain ⟨g3, g4⟩ := h2 t (hc t ht) g1
  exact ⟨g3, fun a ha => by rw [g4 a (ha.prefix hp), g2 a ha]⟩

/-- an owned object goes on under a new number -/
theorem alias_ok {s : Sit} {h : Heap} (hh : HRel s h) {b : Nat} {o : Obj} {ad : Addr} {sz : Nat} (ho : nth h b = some (some o)) (hm : o.mt = true) (hb : nth s.base b = some (some ad, sz))
    {sig : List Kd} {l : Unit → List (List D)} {off : Nat} (h0 : 0 < sig.length) (hd : DIn s sig (s.mem ⟨ad.block, off, none⟩) (l ())) :
    HRel { s with base := s.base ++ [(some (⟨ad.block, off, none⟩ : Addr), sig.length)] } (upd h b none ++ [some ⟨true, .rows sig l⟩]) := by
  have hE : Ev s { s with base := s.base ++ [(some (⟨ad.block, off, none⟩ : Addr), sig.length)] } := ⟨Nat.le_refl _, fun _ _ _ => rfl, fun _ _ => rfl, fun _ h => .inl h, rfl, rfl, rfl⟩
  have hp : s.base <+: { s with base := s.base ++ [(some (⟨ad.block, off, none⟩ : Addr), sig.length)] }.base := List.prefix_append _ _
  have hlen := hh.len
  have ul : (upd h b (none : Option Obj)).length = h.length := by rw [upd_eq]; simp
  have old : ∀ j x, nth (upd h b none ++ [some (⟨true, .rows sig l⟩ : Obj)]) j = some (some x) → (j < h.length ∧ j ≠ b ∧ nth h j = some (some x)) ∨ (j = h.length ∧ x = ⟨true, .rows sig l⟩) := by
    intro j x hx
    rw [nth_append, ul] at hx
    split at hx
    · rw [nth_upd] at hx
      split at hx
      · cases hq : nth h j <;> rw [hq] at hx <;> simp at hx
      · rename_i hlt hne
        exact .inl ⟨hlt, fun e => hne e.symm, hx⟩
    · have := nth_some_lt hx
      simp at this
      obtain rfl : j = h.length := by omega
      simp [nth] at hx
      exact .inr ⟨rfl, hx.symm⟩
  have bnew : nth (s.base ++ [(some (⟨ad.block, off, none⟩ : Addr), sig.length)]) h.length = some (some ⟨ad.block, off, none⟩, sig.length) := by
    rw [nth_append, if_neg (by omega), hlen]; simp [nth]
  have bold : ∀ j, j < h.length → nth (s.base ++ [(some (⟨ad.block, off, none⟩ : Addr), sig.length)]) j = nth s.base j := fun j hj => by
    rw [nth_append, if_pos (by omega)]
  have fl := ((hh.obj b o ho).block hb).1
  refine ⟨by simp [ul, hlen], ?_, ?_, hh.ownlt, hh.hidlt, hh.apart, hh.fix.ev hE⟩
  · intro j x hx
    rcases old j x hx with ⟨hj, _, hx⟩ | ⟨rfl, rfl⟩
    · exact (hh.obj j x hx).keep hE hp (fun _ _ _ => rfl) fun _ hb _ _ => hb
    · refine ⟨_, _, bnew, rfl, h0, .inr ⟨_, rfl, rfl, hd.mono hE fun _ => rfl, ?_⟩⟩
      rw [hm] at fl
      exact fl
  · intro j k x q a a' z y hj hk hmx hmq ha ha' haa
    rcases old j x hj with ⟨hj1, hj2, hj3⟩ | ⟨rfl, rfl⟩
    · rcases old k q hk with ⟨hk1, hk2, hk3⟩ | ⟨rfl, rfl⟩
      · simp only [bold j hj1] at ha
        simp only [bold k hk1] at ha'
        exact hh.inj j k x q a a' z y hj3 hk3 hmx hmq ha ha' haa
      · simp only [bold j hj1] at ha
        simp only [bnew] at ha'
        simp at ha'
        refine absurd (hh.inj j b x o a ad z sz hj3 ho hmx hm ha hb (by rw [haa, ← ha'.1])) hj2
    · rcases old k q hk with ⟨hk1, hk2, hk3⟩ | ⟨rfl, rfl⟩
      · simp only [bold k hk1] at ha'
        simp only [bnew] at ha
        simp at ha
        refine absurd (hh.inj k b q o a' ad y sz hk3 ho hmq hm ha' hb (by rw [← haa, ← ha.1])) hk2
      · rfl
theorem upd_none_live {h : Heap} {b j : Nat} (hj : j ≠ b) (hl : Live h j) (x : Option Obj) : Live (upd h b x) j := by
  obtain ⟨o, ho⟩ := hl
  exact ⟨o, by rw [nth_upd, if_neg (fun e => hj e.symm)]; exact ho⟩
theorem append_live {h : Heap} {j : Nat} (hl : Live h j) (m : Heap) : Live (h ++ m) j := by
  obtain ⟨o, ho⟩ := hl
  exact ⟨o, by rw [nth_append, if_pos (nth_some_lt ho)]; exact ho⟩
theorem clash_obj {t : Tch} {b : Nat} {tc : List Tch} (hm : (.obj b) ∈ tc) (hc : clashes t tc = false) : t.id ≠ b := by
  induction tc with
  | nil => cases hm
  | cons y l ih =>
    simp only [clashes] at hc
    split at hc
    · cases hc
    · rename_i hy
      rcases List.mem_cons.1 hm with rfl | hm
      · intro e
        cases t <;> (simp only [Tch.id] at e; simp only [Tch.clash] at hy; rw [e, Nat.beq_refl] at hy; cases hy)
      · exact ih hm hc
/-- an object is forgotten -/
theorem kill_ok {s : Sit} {h : Heap} (hh : HRel s h) (b : Nat) : HRel s (upd h b none) where
  len := by rw [upd_eq]; simpa using hh.len
  obj j o ho := by
    rw [nth_upd] at ho
    split at ho
    · cases hq : nth h j <;> rw [hq] at ho <;> simp at ho
    · exact hh.obj j o ho
  inj j k o q a a' z y hj hk := by
    rw [nth_upd] at hj hk
    split at hj
    · cases hq : nth h j <;> rw [hq] at hj <;> simp at hj
    · split at hk
      · cases hq : nth h k <;> rw [hq] at hk <;> simp at hk
      · exact hh.inj j k o q a a' z y hj hk
  ownlt := hh.ownlt
  hidlt := hh.hidlt
  apart := hh.apart
  fix := hh.fix

theorem shape_alloc (w : World) (c : Array Value) (t : TypeId) : (w.alloc (.cells c t)).shape? w.heap.size = some (t, c.size) := by
  unfold World.shape?
  show (match (w.heap.push (.cells c t))[w.heap.size]? with | some (.cells c elem _) => some (elem, c.size) | _ => none) = _
  rw [Array.getElem?_push_size]
section
variable {P : Program} {T : Tab} (hT : TabOk P T) {s : Sit} {h : Heap} (hh : HRel s h) {K : AV → Heap → List Tch → Prop}
include hT hh
omit hh in
theorem contOf_ok {t : Nat} {v : AV} {u : Value} {K : Cont → Prop} (hc : contOf T t v K) (hr : VRel s v u) : ∃ c, K c ∧ ContIn s u.cells c := by
  unfold contOf ti at hc
  split at hc
  · rename_i d hd
    split at hc
    · rename_i n e sig _ _
      split at hc
      · rename_i h0
        have h0 := Nat.le_of_ble_eq_true h0
        rw [len_eq] at h0
        obtain ⟨l, a, hk, rfl, h1, h2, h3⟩ := asRows_sound hc hr
        exact ⟨_, hk, by omega, h3⟩
      · exact hc.elim
    · obtain ⟨d', cs, _, hk, h1, _⟩ := cellsV_sound hc hr
      exact ⟨_, hk, h1⟩
  · exact hc.elim
/-- a new object comes of it -/
theorem new_ok {x : Sem Value} {arr : Array Value} {t : TypeId} {c : Cont} {mkv : Addr → Value} {av : AV} (hx : x.run P s.w = .ok (mkv ⟨s.w.heap.size, 0, none⟩) (s.w.alloc (.cells arr t))) (hc : ContIn s arr c)
    (hv : VRel (s.grow arr t (szOf c)) av (mkv ⟨s.w.heap.size, 0, none⟩)) (hK : K av (h ++ [some ⟨true, c⟩]) []) : EffOk P s h (do pure (Next.value (← x))) K :=
  ⟨s.grow arr t (szOf c), av, _, _, [], _, by simp only [Sem.run_bind, hx, Result.andThen_ok]; rfl, .inl rfl, grow_ev _ _ _ _, ⟨_, rfl⟩, grow_ok hh t hc, hv, grow_un hh _ _ _ _ _, hK⟩
theorem alloc_ok {t : Nat} {d : TD} (hd : T t = some d) (hz : zeroOf d fun v => contOf T t v fun c => push h ⟨true, c⟩ fun n h' => K (.ptr n (.l 0) (.l 0)) h' []) :
    EffOk P s h (do pure (Next.value (← Instr.alloc t true (.tuple #[])))) K := by
  have hk := hT t d hd
  obtain ⟨i, z, hi, _, _, hzi, hzs, hzr, hza, hzn⟩ := hk.info
  have hrun : (Instr.alloc t true (.tuple #[])).run P s.w = .ok (.pointer (some ⟨s.w.heap.size, 0, none⟩)) (s.w.alloc (.cells z.cells t)) := by
    simp [Instr.alloc, zeroValue, typeInfo, hi, hzi, newVar, newRow]
  have go : ∀ av, VRel s av z → (contOf T t av fun c => push h ⟨true, c⟩ fun n h' => K (.ptr n (.l 0) (.l 0)) h' []) → EffOk P s h (do pure (Next.value (← Instr.alloc t true (.tuple #[])))) K := by
    intro av hav hc
    obtain ⟨c, hc, hci⟩ := contOf_ok hT hc hav
    exact new_ok hT hh (mkv := fun a => .pointer (some a)) hrun hci (by simp only [VRel]; exact ⟨_, grow_place hh _ _ _, rfl⟩) hc
  unfold zeroOf at hz
  split at hz
  · rename_i ha
    exact go _ (by rw [hza ha]; simp only [VRel]; exact ⟨_, rfl, hzr.rels s⟩) hz
  · rename_i ha
    split at hz
    · rename_i v hv
      refine go _ ?_ hz
      have := hzr.rels s
      rw [hv, hzn ha] at this
      simpa [VRels] using this
    · exact hz.elim
theorem box_ok {t : Nat} {x : AV} {u : Value} (hx : VRel s x u) (hc : contOf T t x fun c => push h ⟨true, c⟩ fun n h' => K (.ptr n (.l 0) (.l 0)) h' []) : EffOk P s h (do pure (Next.value (← Instr.box t u))) K := by
  obtain ⟨c, hc, hci⟩ := contOf_ok hT hc hx
  refine new_ok hT hh (mkv := fun a => .pointer (some a)) (arr := u.cells) (t := t) ?_ hci (by simp only [VRel]; exact ⟨_, grow_place hh _ _ _, rfl⟩) hc
  simp [Instr.box, newVar, newRow]
omit hT hh in
theorem rep_nth {α : Type} (l : List α) (h0 : 0 < l.length) : ∀ (n j : Nat), j < n * l.length → nth (rep n l) j = nth l (j % l.length)
  | 0, j, h => by simp at h
  | n + 1, j, h => by
    simp only [rep]
    rw [nth_append]
    split
    · rename_i hj; rw [Nat.mod_eq_of_lt hj]
    · rename_i hj
      rw [rep_nth l h0 n (j - l.length) (by rw [Nat.succ_mul] at h; omega), ← Nat.mod_eq_sub_mod (by omega)]
omit hT hh in
theorem rep_length {α : Type} (l : List α) : ∀ n, (rep n l).length = n * l.length
  | 0 => by simp [rep]
  | n + 1 => by simp [rep, rep_length l n, Nat.succ_mul, Nat.add_comm]
omit hT hh in
theorem zeros_rel {zs : List AV} {z : Array Value} (hz : ZRels zs z.toList) (h0 : 0 < z.size) (n : Nat) : VRels s (rep n zs) ((Array.range (n * z.size)).map (z[· % z.size]!)).toList := by
  have hl : zs.length = z.size := by rw [← Array.length_toList, hz.length]
  refine VRels.mk (by simp [rep_length, hl]) fun i a ha => ?_
  have hi := nth_some_lt ha
  rw [rep_length, hl] at hi
  rw [rep_nth zs (by omega) n i (by rw [hl]; exact hi), hl] at ha
  obtain ⟨v, hv, hr⟩ := (hz.rels s).nth ha
  refine ⟨v, ?_, hr⟩
  simp only [Array.getElem?_toList] at hv
  have hg : z[i % z.size]! = v := by simp [getElem!_def, hv]
  simp [hi, hg]
theorem new_slice {arr : Array Value} {t : TypeId} {sig : List Kd} {l : Unit → List (List D)} {n c : NX} {cap : Nat} {ex : Bool} (h0 : 0 < sig.length) (h1 : n.v ≤ c.v) (h2 : c.v ≤ cap) (h3 : ex = true → cap = c.v) (h4 : cap * sig.length ≤ arr.size) :
    VRel (s.grow arr t sig.length) (.sl (len h) (.l 0) (.l 0) sig.length n c ex) (.slice (some ⟨s.w.heap.size, 0, none⟩) n.v cap) := by
  simp only [VRel]
  refine ⟨_, _, rfl, h1, h2, h3, h0, ?_, .inr ⟨_, rfl, grow_place hh _ _ _, t, arr.size, ?_, by simpa using h4⟩⟩
  · simp [Sit.grow, len_eq, hh.len]
  · exact shape_alloc _ _ _
theorem buildSlice_ok {t n : Nat} {ps : List (Nat × AV)} {qs : Array (Nat × Value)} (hb : eBuildSlice T t n ps h fun v h' => K v h' []) (hr : PRel s ps qs.toList) : EffOk P s h (do pure (Next.value (← Instr.buildSlice t n qs))) K := by
  unfold eBuildSlice ti at hb
  split at hb
  · rename_i d hd
    obtain ⟨desc, hu, hkd⟩ := (hT t d hd).under
    split at hb
    · rename_i e hf
      rw [hf] at hkd
      simp only [KOk] at hkd
      subst hkd
      split at hb
      · rename_i de hde
        have hke := hT e de hde
        obtain ⟨i, z, hi, _, _, hzi, hzs, hzr, hza, hzn⟩ := hke.info
        split at hb
        · rename_i sig hsig
          split at hb
          · rename_i hsz
            split at hsz
            · rename_i hsz1
              have hsz1 := Nat.eq_of_beq_eq_true hsz1
              have h0 := Nat.le_of_ble_eq_true hsz
              rw [len_eq] at hsz1 h0
              split at hb
              · rename_i hlim
                have hlim := Nat.le_of_ble_eq_true hlim
                have hz0 := zeros_rel (s := s) hzr (by omega) n
                obtain ⟨cs', arr', e1, e2, e3⟩ := fill_ok (place' := fun i => some (i * de.size, de.size)) (fun i off t' hp d' hd' => by
                  simp at hp
                  obtain ⟨rfl, rfl⟩ := hp
                  rw [hde] at hd'
                  simp at hd'
                  subst hd'
                  rfl) hb hr hz0
                split at e3
                · rename_i hfit
                  obtain ⟨f1, f2, f3⟩ := fits_rel n cs' _ hfit e2
                  have hrun : (Instr.buildSlice t n qs).run P s.w = .ok (.slice (some ⟨s.w.heap.size, 0, none⟩) n n) (s.w.alloc (.cells arr' e)) := by
                    have e1' : Instr.fill (fun i => some (i * de.size, de.size)) ((Array.range (n * de.size)).map ((if n * de.size = 0 then #[] else z.cells)[· % (if n * de.size = 0 then #[] else z.cells).size]!)) qs.toList = some arr' := by
                      by_cases hn : n * de.size = 0
                      · rw [if_pos hn]
                        rw [hzs, hn, Array.range_zero', Array.map_empty] at e1
                        rw [hn, Array.range_zero', Array.map_empty]
                        exact e1
                      · rw [if_neg hn, ← hzs]
                        rw [← hzs] at e1
                        exact e1
                    simp only [Instr.buildSlice, Sem.run_bind, run_under hu, Result.andThen_ok, hke.size]
                    rw [Sem.run_ite, if_neg (by omega)]
                    by_cases hn : n * de.size = 0
                    · simp only [hn, if_true, Sem.run_bind, Sem.run_pure, Result.andThen_ok]
                      simp only [hn, if_true, Array.range_zero', Array.map_empty] at e1'
                      simp only [Array.range_zero', Array.map_empty, e1', newRow, Sem.run_bind, run_newObj, Result.andThen_ok, Sem.run_pure]
                      rfl
                    · simp only [hn, if_false, Sem.run_bind, Sem.run_pure, Result.andThen_ok, zeroValue, typeInfo, run_program, hi, hzi]
                      simp only [hn, if_false] at e1'
                      simp [e1', newRow]
                  refine new_ok hT hh (mkv := fun a => .slice (some a) n n) (c := .rows sig _) hrun ⟨h0, by rw [len_eq]; simpa using f3⟩ ?_ e3
                  simp only [szOf]
                  have := new_slice hT hh (arr := arr') (t := e) (l := fun _ => []) (n := .l n) (c := .l n) (cap := n) (ex := true) h0 (Nat.le_refl _) (Nat.le_refl _) (fun _ => rfl) (by rw [← Array.length_toList, f1]; exact Nat.le_refl _)
                  rw [hsz1] at this ⊢
                  exact this
                · exact e3.elim
              · exact hb.elim
            · cases hsz
          · exact hb.elim
        · exact hb.elim
      · exact hb.elim
    · exact hb.elim
  · exact hb.elim
end
end Go.Sy
end

section
/- Soundness: make, append, clear, len, min, max. -/
namespace Go.Sy
set_option linter.unusedSimpArgs false
set_option linter.unusedVariables false
set_option linter.unusedSectionVars false

theorem wrap_small {n : Int} (h0 : 0 ≤ n) (h1 : n ≤ 140737488355328) : IntKind.i64.wrap n = n := by
  refine wrap_inR ?_
  simp [inR, IntKind.min, IntKind.max, IntKind.signed, IntKind.bits]
  omega
theorem zero_row {s : Sit} {sig : List Kd} {zs : List AV} {z : Array Value} (hf : fits sig 1 zs = true) (hz : VRels s zs z.toList) : z.size = sig.length ∧ (dsOf zs).length = sig.length ∧
    ∀ j k d, nth sig j = some k → nth (dsOf zs) j = some d → ∃ v, z[j]? = some v ∧ DRel s k d v := by
  obtain ⟨h1, h2, h3, h4⟩ := fits_rel 1 zs _ hf hz
  have hzl : zs.length = sig.length := by rw [← hz.length, h1]; simp
  have hrow : rowsOf sig.length 1 zs = [dsOf zs] := by
    simp only [rowsOf]
    rw [List.take_of_length_le (by omega)]
  rw [hrow] at h3 h4
  refine ⟨by simpa using h1, h3 0 _ rfl, fun j k d hk hd => ?_⟩
  obtain ⟨v, hv, hr⟩ := h4 0 j _ k d rfl hk hd
  exact ⟨v, by simpa using hv, hr⟩
theorem rep_rows {s : Sit} {sig : List Kd} {zs : List AV} {z : Array Value} (hf : fits sig 1 zs = true) (hz : VRels s zs z.toList) (n : Nat) {g : Nat → Option Value}
    (hg : ∀ i j, i < n → j < sig.length → g (i * sig.length + j) = z[j]?) : DIn s sig g (List.replicate n (dsOf zs)) := by
  obtain ⟨h1, h2, h3⟩ := zero_row hf hz
  have hrep : ∀ i r, nth (List.replicate n (dsOf zs)) i = some r → i < n ∧ r = dsOf zs := by
    intro i r hr
    have := nth_some_lt hr
    rw [nth_eq, List.getElem?_replicate] at hr
    split at hr
    · simp at hr; exact ⟨‹_›, hr.symm⟩
    · cases hr
  refine ⟨fun i r hr => ?_, fun i j r k d hr hk hd => ?_⟩
  · obtain ⟨_, rfl⟩ := hrep i r hr; exact h2
  · obtain ⟨hi, rfl⟩ := hrep i r hr
    obtain ⟨v, hv, hvr⟩ := h3 j k d hk hd
    exact ⟨v, by rw [hg i j hi (nth_some_lt hk)]; exact hv, hvr⟩
theorem mod_row {m i j : Nat} (hj : j < m) : (i * m + j) % m = j := by
  rw [Nat.add_comm, Nat.add_mul_mod_self_right, Nat.mod_eq_of_lt hj]
section
variable {P : Program} {T : Tab} (hT : TabOk P T) {s : Sit} {h : Heap} (hh : HRel s h) {K : AV → Heap → List Tch → Prop}
include hT hh
theorem makeSlice_ok {t : Nat} {l c : AV} {u v : Value} (hb : eMakeSlice T t l c h fun v h' => K v h' []) (hl : VRel s l u) (hc : VRel s c v) : EffOk P s h (do pure (Next.value (← Instr.makeSlice t u v))) K := by
  unfold eMakeSlice ti at hb
  split at hb
  · rename_i d hd
    obtain ⟨desc, hu, hkd⟩ := (hT t d hd).under
    split at hb
    · rename_i e hf
      rw [hf] at hkd
      simp only [KOk] at hkd
      subst hkd
      split at hb
      · rename_i de hde
        have hke := hT e de hde
        obtain ⟨i, z, hi, his, hib, hzi, hzs, hzr, hza, hzn⟩ := hke.info
        split at hb
        · rename_i sig hsig
          split at hb
          · rename_i hck
            split at hck
            · rename_i hsz
              split at hck
              · rename_i h0
                split at hck
                · rename_i hb0
                  have hsz := Nat.eq_of_beq_eq_true hsz
                  have h0 := Nat.le_of_ble_eq_true h0
                  have hb0 := Nat.le_of_ble_eq_true hb0
                  rw [len_eq] at hsz h0
                  split at hb
                  · rename_i kl a
                    split at hb
                    · rename_i kc b
                      cases hb with
                      | mk hab hb =>
                        obtain ⟨ha0, hab, hbb⟩ := hab
                        simp only [VRel] at hl hc
                        subst hl; subst hc
                        unfold maxBytes at hbb
                        have hb47 : b.v ≤ 140737488355328 := by
                          have : b.v * 1 ≤ b.v * (de.bytes : Int) := Int.mul_le_mul_of_nonneg_left (by omega) (by omega)
                          omega
                        have hwa : IntKind.i64.wrap a.v = a.v := wrap_small ha0 (by omega)
                        have hwb : IntKind.i64.wrap b.v = b.v := wrap_small (by omega) hb47
                        have hrun : (Instr.makeSlice t (.int kl a.v) (.int kc b.v)).run P s.w = .ok (.slice (some ⟨s.w.heap.size, 0, none⟩) a.v.toNat b.v.toNat) (s.w.alloc (.cells ((Array.range (b.v.toNat * de.size)).map (z.cells[· % z.cells.size]!)) e)) := by
                          have hcond : ¬ ((decide (b.v < 0) || decide ((de.bytes : Int) * b.v > 2 ^ 48) || decide (a.v < 0) || decide (a.v > b.v)) = true) := by
                            have : (de.bytes : Int) * b.v = b.v * de.bytes := Int.mul_comm _ _
                            simp
                            omega
                          have h1 : ¬ (b.v < 0) := by omega
                          have h2 : ¬ (a.v < 0) := by omega
                          have h3 : ¬ (b.v < a.v) := by omega
                          have h4 : ¬ (281474976710656 < (de.bytes : Int) * b.v) := by
                            have : (de.bytes : Int) * b.v = b.v * de.bytes := Int.mul_comm _ _
                            omega
                          by_cases hn : b.v.toNat * de.size = 0
                          · simp [Instr.makeSlice, run_under hu, asInt, asIntOf, typeInfo, hi, hib, sizeOf, his, hwa, hwb, h1, h2, h3, h4, hn, newRow, zeroValue, hzi, Array.range_zero']
                          · simp [Instr.makeSlice, run_under hu, asInt, asIntOf, typeInfo, hi, hib, sizeOf, his, hwa, hwb, h1, h2, h3, h4, hn, newRow, zeroValue, hzi]
                        refine new_ok hT hh (mkv := fun q => .slice (some q) a.v.toNat b.v.toNat) (c := .rows sig _) hrun ⟨h0, ?_⟩ ?_ hb
                        · refine rep_rows (s := s) hck (hzr.rels s) _ fun i' j hi' hj => ?_
                          have hlt : i' * sig.length + j < b.v.toNat * de.size := by
                            have : (i' + 1) * sig.length ≤ b.v.toNat * sig.length := Nat.mul_le_mul_right _ (by omega)
                            rw [Nat.succ_mul] at this
                            rw [← hsz]; omega
                          have hzsz : z.cells.size = sig.length := by rw [hzs, hsz]
                          have hj' : j < z.cells.size := by omega
                          have hm : (i' * sig.length + j) % z.cells.size = j := by rw [hzsz]; exact mod_row hj
                          simp [hlt, hm, hj']
                        · simp only [szOf]
                          have := new_slice hT hh (arr := (Array.range (b.v.toNat * de.size)).map (z.cells[· % z.cells.size]!)) (t := e) (l := fun _ => []) (n := natOf a) (c := natOf b) (cap := b.v.toNat) (ex := true) h0
                            (by rw [natOf_v, natOf_v]; omega) (by rw [natOf_v]; exact Nat.le_refl _) (fun _ => by rw [natOf_v]) (by simp [hsz])
                          rw [natOf_v] at this
                          rw [hsz] at this ⊢
                          exact this
                    · exact hb.elim
                  · exact hb.elim
                · cases hck
              · cases hck
            · cases hck
          · exact hb.elim
        · exact hb.elim
      · exact hb.elim
    · exact hb.elim
  · exact hb.elim

/-! ### the rows that a slice shows -/
/-- the cells of a slice's rows, in memory -/
theorem rowsIn_ok {x : AV} {u : Value} {K : List Kd → (Unit → List (List D)) → NX → Prop} {N : Unit → Prop} (hx : VRel s x u) (hr : rowsIn h x K N) :
    (x = .nils ∧ N ()) ∨ ∃ b i z n c ex sig l o, x = .sl b i (.l 0) z n c ex ∧ nth h b = some (some o) ∧ o.c = .rows sig l ∧ sig.length = z ∧ i.v + n.v ≤ (l ()).length ∧ K sig (fun _ => ((l ()).drop i.v).take n.v) n := by
  unfold rowsIn at hr
  split at hr
  · exact .inl ⟨rfl, hr⟩
  · rename_i b i f z n c ex
    split at hr
    · rename_i o ho
      split at hr
      · rename_i sig l hc
        split at hr
        · split at hr
          · rename_i hz
            obtain ⟨hle, hr⟩ := leN_ok hr
            rw [nAdd_v] at hle
            have hz := Nat.eq_of_beq_eq_true hz
            rw [len_eq] at hz
            exact .inr ⟨b, i, z, n, c, ex, sig, l, o, rfl, ho, hc, hz, hle, hr⟩
          · exact hr.elim
        · exact hr.elim
      · exact hr.elim
    · exact hr.elim
  · exact hr.elim
/-- some rows of an object, as a list of values -/
theorem rows_vals {b : Nat} {o : Obj} {sig : List Kd} {l : Unit → List (List D)} (ho : nth h b = some (some o)) (hc : o.c = .rows sig l) {i n : Nat} (hle : i + n ≤ (l ()).length) {ad : Addr} (hp : s.place b i 0 ad) :
    ∃ vs : List Value, vs.length = n * sig.length ∧ (∀ (j : Nat) v, vs[j]? = some v → s.w.cell? ⟨ad.block, ad.off + j, none⟩ = some v) ∧ DIn s sig (fun j => vs[j]?) (((l ()).drop i).take n) ∧ (∀ x ∈ vs, x.oneCell' = true) := by
  obtain ⟨a0, sz, hb, hsp, had, hfl, hcont⟩ := obj_at hT hh hp ho
  rw [hc] at hcont
  obtain ⟨rfl, h0, hcont⟩ := hcont
  obtain ⟨vs, e1, e2⟩ := pickAll (g := s.mem a0) (n * sig.length) (i * sig.length) (fun j hj => by
    refine hcont.all h0 (j := i * sig.length + j) ?_
    have : (i + n) * sig.length ≤ (l ()).length * sig.length := Nat.mul_le_mul_right _ hle
    rw [Nat.add_mul] at this
    omega)
  have hd : DIn s sig (fun j => vs[j]?) (((l ()).drop i).take n) := by
    have key : ∀ i' r, nth (((l ()).drop i).take n) i' = some r → i' < n ∧ nth (l ()) (i + i') = some r := by
      intro i' r hr
      rw [nth_eq, List.getElem?_take] at hr
      split at hr
      · rw [List.getElem?_drop, ← nth_eq] at hr; exact ⟨‹_›, hr⟩
      · cases hr
    refine ⟨fun i' r hr => hcont.1 _ r (key i' r hr).2, fun i' j r k d hr hk hd => ?_⟩
    obtain ⟨hi', hr'⟩ := key i' r hr
    obtain ⟨v, hv, hvr⟩ := hcont.2 (i + i') j r k d hr' hk hd
    refine ⟨v, ?_, hvr⟩
    have hj := nth_some_lt hk
    have : (i' + 1) * sig.length ≤ n * sig.length := Nat.mul_le_mul_right _ hi'
    rw [Nat.succ_mul] at this
    show vs[i' * sig.length + j]? = some v
    rw [e2 _ (by omega), show i * sig.length + (i' * sig.length + j) = (i + i') * sig.length + j by rw [Nat.add_mul]; omega]
    exact hv
  refine ⟨vs, e1, fun j v hj => ?_, hd, fun x hx => ?_⟩
  · have hjl : j < n * sig.length := by rw [← e1]; exact (List.getElem?_eq_some_iff.1 hj).1
    rw [e2 j hjl] at hj
    subst had
    simpa [Sit.mem, Nat.add_assoc] using hj
  · obtain ⟨q, hq⟩ := List.mem_iff_getElem?.1 hx
    have hql : q < n * sig.length := by rw [← e1]; exact (List.getElem?_eq_some_iff.1 hq).1
    have hlen : (((l ()).drop i).take n).length = n := by simp; omega
    have hqr : q / sig.length < (((l ()).drop i).take n).length := by rw [hlen]; exact (Nat.div_lt_iff_lt_mul h0).2 hql
    obtain ⟨r, hr⟩ := nth_of_lt hqr
    obtain ⟨k, hk2⟩ := nth_of_lt (l := sig) (i := q % sig.length) (Nat.mod_lt _ h0)
    obtain ⟨dd, hdd⟩ := nth_of_lt (l := r) (i := q % sig.length) (by rw [hd.1 _ r hr]; exact Nat.mod_lt _ h0)
    obtain ⟨v, hv, hvr⟩ := hd.2 _ _ r k dd hr hk2 hdd
    simp only [Nat.div_add_mod', hq] at hv
    simp at hv; subst hv
    cases hvr <;> rfl
omit hT hh in
theorem cells_block {w : World} {b o : Nat} {v : Value} (h : w.cell? ⟨b, o, none⟩ = some v) : ∃ c e f, w.heap[b]? = some (.cells c e f) := by
  unfold World.cell? at h
  simp only at h
  split at h
  · rename_i c e f hb
    exact ⟨c, e, f, hb⟩
  · cases h
end
end Go.Sy
end
