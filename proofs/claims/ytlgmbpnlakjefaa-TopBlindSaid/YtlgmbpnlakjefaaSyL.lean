/- Soundness: loads and stores. -/
import Derived.Test.YtlgmbpnlakjefaaSyK
namespace Go.Sy
set_option linter.unusedSimpArgs false
set_option linter.unusedVariables false
set_option linter.unusedSectionVars false

theorem nth_set {α : Type} {l : List α} {i k : Nat} {a x : α} (h : nth (l.set i a) k = some x) : (k = i ∧ x = a) ∨ (k ≠ i ∧ nth l k = some x) := by
  rw [nth_eq, List.getElem?_set] at h
  by_cases hk : i = k
  · rw [if_pos hk] at h
    split at h
    · simp at h; exact .inl ⟨hk.symm, h.symm⟩
    · cases h
  · rw [if_neg hk] at h
    exact .inr ⟨fun e => hk e.symm, by rw [nth_eq]; exact h⟩
theorem pickVals {s : Sit} {g : Nat → Option Value} : ∀ (cs : List AV) (o : Nat), (∀ j a, nth cs j = some a → ∃ v, g (o + j) = some v ∧ VRel s a v) →
    ∃ vs : List Value, VRels s cs vs ∧ ∀ (j : Nat) v, vs[j]? = some v → g (o + j) = some v
  | [], o, _ => ⟨[], by simp [VRels], fun j v h => by simp at h⟩
  | a :: cs, o, h => by
    obtain ⟨v, hv, hr⟩ := h 0 a rfl
    obtain ⟨vs, h1, h2⟩ := pickVals cs (o + 1) (fun j b hb => by
      obtain ⟨u, hu, hur⟩ := h (j + 1) b (by simpa [nth] using hb)
      exact ⟨u, by rw [show o + 1 + j = o + (j + 1) by omega]; exact hu, hur⟩)
    refine ⟨v :: vs, by simp only [VRels]; exact ⟨v, vs, rfl, hr, h1⟩, fun j u hu => ?_⟩
    cases j with
    | zero => simp at hu; subst hu; exact hv
    | succ j => rw [show o + (j + 1) = o + 1 + j by omega]; exact h2 j u (by simpa using hu)
theorem pickAll {g : Nat → Option Value} : ∀ (n o : Nat), (∀ j, j < n → ∃ v, g (o + j) = some v) → ∃ vs : List Value, vs.length = n ∧ ∀ j, j < n → vs[j]? = g (o + j)
  | 0, o, _ => ⟨[], rfl, fun j h => by omega⟩
  | n + 1, o, h => by
    obtain ⟨v, hv⟩ := h 0 (by omega)
    obtain ⟨vs, h1, h2⟩ := pickAll n (o + 1) (fun j hj => by
      obtain ⟨u, hu⟩ := h (j + 1) (by omega)
      exact ⟨u, by rw [show o + 1 + j = o + (j + 1) by omega]; exact hu⟩)
    refine ⟨v :: vs, by simp [h1], fun j hj => ?_⟩
    cases j with
    | zero => simpa using hv.symm
    | succ j =>
      rw [show o + (j + 1) = o + 1 + j by omega]
      simpa using h2 j (by omega)
theorem DIn.all {s : Sit} {sig : List Kd} {g : Nat → Option Value} {rows : List (List D)} (h : DIn s sig g rows) (h0 : 0 < sig.length) {j : Nat} (hj : j < rows.length * sig.length) : ∃ v, g j = some v := by
  have h1 : j / sig.length < rows.length := (Nat.div_lt_iff_lt_mul h0).2 hj
  have h2 := Nat.mod_lt j h0
  have := h.cell h1 h2
  rwa [Nat.div_add_mod' j sig.length] at this
theorem DIn.of_eq {s : Sit} {sig : List Kd} {g g' : Nat → Option Value} {rows : List (List D)} (h : DIn s sig g rows) (hg : ∀ j, j < rows.length * sig.length → g' j = g j) : DIn s sig g' rows :=
  ⟨h.1, fun i j r k d h1 h2 h3 => by
    obtain ⟨v, hv, hr⟩ := h.2 i j r k d h1 h2 h3
    refine ⟨v, ?_, hr⟩
    rw [hg, hv]
    have hi := nth_some_lt h1
    have hj := nth_some_lt h2
    have : (i + 1) * sig.length ≤ rows.length * sig.length := Nat.mul_le_mul_right _ hi
    rw [Nat.succ_mul] at this
    omega⟩
section
variable {P : Program} {T : Tab} (hT : TabOk P T) {s : Sit} {h : Heap} (hh : HRel s h)
include hT hh
theorem run_loadOne {t : Nat} {d : TD} (hd : T t = some d) (ha : d.isAgg = false) {ad : Addr} {v : Value} {w : World} (hv : w.cell? ad = some v) : (Instr.loadAt t (.pointer (some ad))).run P w = .ok v w := by
  simp [Instr.loadAt, Instr.sureAddr, loadVar, (hT t d hd).isAgg, ha, hv]
theorem run_loadAgg {t : Nat} {d : TD} (hd : T t = some d) (ha : d.isAgg = true) {ad : Addr} (hs : ad = ⟨ad.block, ad.off, none⟩) {vs : List Value} {w : World} (hl : vs.length = d.size)
    (hv : ∀ (j : Nat) v, vs[j]? = some v → w.cell? ⟨ad.block, ad.off + j, none⟩ = some v) : (Instr.loadAt t (.pointer (some ad))).run P w = .ok (.agg vs.toArray) w := by
  have := run_loadCells_list (P := P) w ad vs (fun j v hj => by rw [add_none hT hs]; exact hv j v hj)
  simp only [Instr.loadAt, Instr.sureAddr, Sem.run_bind, Sem.run_pure, Result.andThen_ok, loadVar, (hT t d hd).isAgg, ha, if_true, (hT t d hd).size, ← hl, this]
/-- an object that is addressed -/
theorem obj_at {b i f : Nat} {ad : Addr} (hp : s.place b i f ad) {o : Obj} (ho : nth h b = some (some o)) : ∃ a sz, nth s.base b = some (some a, sz) ∧ a.spot = none ∧ ad = ⟨a.block, a.off + (i * sz + f), none⟩ ∧
    Flags s o.mt a.block ∧ match o.c with
      | .cells l => CellsIn s (s.mem a) l
      | .rows sig l => sz = sig.length ∧ 0 < sig.length ∧ DIn s sig (s.mem a) (l ()) := by
  obtain ⟨a, sz, h1, h2, h3⟩ := hp
  obtain ⟨ab, sz', g1, g2⟩ := hh.obj b o ho
  rw [h1] at g1
  simp at g1
  obtain ⟨rfl, rfl⟩ := g1
  refine ⟨a, sz, h1, h2, h3, ?_⟩
  cases hc : o.c with
  | cells l =>
    rw [hc] at g2
    obtain ⟨ad', e, _, g3, g4⟩ := g2
    simp at e; subst e
    exact ⟨g4, g3⟩
  | rows sig l =>
    rw [hc] at g2
    obtain ⟨rfl, g3, g4⟩ := g2
    rcases g4 with ⟨e, _⟩ | ⟨ad', e, _, g5, g6⟩
    · cases e
    · simp at e; subst e
      exact ⟨g6, rfl, g3, g5⟩
theorem eLoad_ok {t : Nat} {x : AV} {u : Value} {K : AV → Tch → Prop} (hl : eLoad T t x h K) (hx : VRel s x u) :
    ∃ av v r, (∀ w', (∀ a, Foot s r a → w'.cell? a = s.w.cell? a) → (Instr.loadAt t u).run P w' = .ok v w') ∧ VRel s av v ∧ K av r ∧ Live h r.id := by
  unfold eLoad at hl
  split at hl
  · rename_i b i f
    simp only [VRel] at hx
    obtain ⟨ad, hp, rfl⟩ := hx
    split at hl
    · rename_i o ho
      obtain ⟨a0, sz, hb, hsp, had, hfl, hcont⟩ := obj_at hT hh hp ho
      unfold ti at hl
      split at hl
      · rename_i d hd
        split at hl
        · rename_i l hc
          rw [hc] at hcont
          split at hl
          · split at hl
            · rename_i f0
              simp only [zv, Nat.zero_mul, Nat.zero_add] at had
              subst had
              split at hl
              · rename_i ha
                split at hl
                · rename_i cs hcs
                  obtain ⟨g1, rfl⟩ := part_some hcs
                  obtain ⟨vs, e1, e2⟩ := pickVals (s := s) (g := s.mem a0) ((l.drop f0).take d.size) f0 (fun j a ha => by
                    rw [nth_eq, List.getElem?_take] at ha
                    split at ha
                    · rw [List.getElem?_drop, ← nth_eq] at ha
                      exact hcont _ _ ha
                    · cases ha)
                  have hvl : vs.length = d.size := by rw [e1.length]; simp; omega
                  refine ⟨_, .agg vs.toArray, _, fun w' hw => ?_, by simp only [VRel]; exact ⟨_, rfl, e1⟩, hl, ⟨o, ho⟩⟩
                  refine run_loadAgg hT hh hd ha rfl hvl fun j v hj => ?_
                  have hjl : j < d.size := by rw [← hvl]; exact (List.getElem?_eq_some_iff.1 hj).1
                  show w'.cell? ⟨a0.block, a0.off + f0 + j, none⟩ = some v
                  rw [hw ⟨a0.block, a0.off + f0 + j, none⟩ ⟨a0, sz, hb, rfl, rfl, by simp only; omega, by simp only; omega⟩]
                  have := e2 j v hj
                  simpa [Sit.mem, Nat.add_assoc] using this
                · exact hl.elim
              · rename_i ha
                split at hl
                · rename_i v hv
                  obtain ⟨y, hy, hyr⟩ := hcont _ _ hv
                  refine ⟨_, y, _, fun w' hw => ?_, hyr, hl, ⟨o, ho⟩⟩
                  refine run_loadOne hT hh hd ha ?_
                  rw [hw ⟨a0.block, a0.off + f0, none⟩ ⟨a0, sz, hb, rfl, rfl, by simp, by simp⟩]
                  exact hy
                · exact hl.elim
            · rename_i f0
              simp only [zv, Nat.zero_mul, Nat.zero_add] at had
              split at hl
              · exact hl.elim
              · rename_i ha
                obtain ⟨lo, n, hl⟩ := hl
                unfold cellAny at hl
                split at hl
                · rename_i cs hcs
                  obtain ⟨g1, g2⟩ := part_some hcs
                  split at hl
                  · rename_i c0 cs'
                    split at hl
                    · rename_i k hk
                      split at hl
                      · rename_i hfit
                        cases hl with
                        | mk hin hl =>
                          obtain ⟨vs, e1, e2⟩ := pickVals (s := s) (g := s.mem a0) (c0 :: cs') lo (fun j a ha => by
                            rw [g2, nth_eq, List.getElem?_take] at ha
                            split at ha
                            · rw [List.getElem?_drop, ← nth_eq] at ha
                              exact hcont _ _ ha
                            · cases ha)
                          obtain ⟨f1, f2, f3⟩ := fits_rel n _ vs hfit e1
                          obtain ⟨r, hr⟩ := nth_of_lt (l := rowsOf 1 n (c0 :: cs')) (i := f0 () - lo) (by rw [show ([k] : List Kd).length = 1 from rfl] at f2; rw [f2]; omega)
                          obtain ⟨dd, hdd⟩ := nth_of_lt (l := r) (i := 0) (by rw [f3.1 _ r hr]; simp)
                          obtain ⟨v, hv, hvr⟩ := f3.2 _ 0 r k dd hr rfl hdd
                          refine ⟨_, v, _, fun w' hw => ?_, ?_, hl, ⟨o, ho⟩⟩
                          · refine run_loadOne hT hh hd ha ?_
                            subst had
                            simp only [NX.v]
                            rw [hw ⟨a0.block, a0.off + f0 (), none⟩ ⟨a0, sz, hb, rfl, rfl, by simp only; omega, by simp only; omega⟩]
                            have := e2 _ v hv
                            simp only [Sit.mem, List.length_singleton, Nat.mul_one, Nat.add_zero] at this
                            rw [show a0.off + f0 () = a0.off + (lo + (f0 () - lo)) by omega]
                            exact this
                          · refine cellOf_rel ?_
                            simp only [nsub]
                            rw [getD_of_nth hr, getD_of_nth hdd]
                            exact hvr
                      · exact hl.elim
                    · exact hl.elim
                  · exact hl.elim
                · exact hl.elim
          · exact hl.elim
        · rename_i sig l hc
          rw [hc] at hcont
          obtain ⟨rfl, h0, hcont⟩ := hcont
          split at hl
          · rename_i j
            simp only [zv] at had
            split at hl
            · rename_i ha
              split at hl
              · rename_i k hk
                obtain ⟨_, hi, hl⟩ := inN_ok hl
                rw [ofNat_v] at hi
                simp only [NX.v] at hi
                have hi' : i.v < (l ()).length := by simpa [NX.v] using hi
                obtain ⟨r, hr⟩ := nth_of_lt hi'
                obtain ⟨dd, hdd⟩ := nth_of_lt (l := r) (i := j) (by rw [hcont.1 _ r hr]; exact nth_some_lt hk)
                obtain ⟨v, hv, hvr⟩ := hcont.2 _ j r k dd hr hk hdd
                refine ⟨_, v, _, fun w' hw => ?_, ?_, hl, ⟨o, ho⟩⟩
                · refine run_loadOne hT hh hd ha ?_
                  subst had
                  rw [hw ⟨a0.block, a0.off + (i.v * sig.length + j), none⟩ ⟨a0, _, hb, rfl, rfl⟩]
                  exact hv
                · refine cellOf_rel ?_
                  rw [getD_of_nth hr, getD_of_nth hdd]
                  exact hvr
              · exact hl.elim
            · rename_i ha
              split at hl
              · split at hl
                · rename_i n e hk
                  split at hl
                  · cases hl with
                    | mk hn hl =>
                      split at hl
                      · rename_i hsz
                        have hsz := Nat.eq_of_beq_eq_true hsz
                        rw [len_eq] at hsz
                        simp only [zv, Nat.zero_mul, Nat.add_zero] at had
                        obtain ⟨vs, e1, e2⟩ := pickAll (g := s.mem a0) (n * sig.length) 0 (fun j hj => by
                          rw [Nat.zero_add]; exact hcont.all h0 (by rw [hn]; exact hj))
                        refine ⟨_, .agg vs.toArray, _, fun w' hw => ?_, ?_, hl, ⟨o, ho⟩⟩
                        · subst had
                          refine run_loadAgg hT hh hd ha rfl (by rw [e1, hsz]) fun j v hj => ?_
                          have hjl : j < n * sig.length := by rw [← e1]; exact (List.getElem?_eq_some_iff.1 hj).1
                          show w'.cell? ⟨a0.block, a0.off + j, none⟩ = some v
                          rw [hw ⟨a0.block, a0.off + j, none⟩ ⟨a0, _, hb, rfl, rfl⟩]
                          rw [e2 j hjl, Nat.zero_add] at hj
                          simpa [Sit.mem] using hj
                        · simp only [VRel]
                          refine ⟨_, rfl, by simp [e1, hn], h0, hcont.of_eq fun j hj => ?_⟩
                          rw [hn] at hj
                          have := e2 j hj
                          rw [Nat.zero_add] at this
                          simpa using this
                      · exact hl.elim
                  · exact hl.elim
                · split at hl
                  · rename_i hsz
                    have hsz := Nat.eq_of_beq_eq_true hsz
                    rw [len_eq] at hsz
                    obtain ⟨_, hi, hl⟩ := inN_ok hl
                    rw [ofNat_v] at hi
                    have hi' : i.v < (l ()).length := by simpa [NX.v] using hi
                    obtain ⟨vs, e1, e2⟩ := pickAll (g := s.mem a0) sig.length (i.v * sig.length) (fun j hj => hcont.cell hi' hj)
                    refine ⟨_, .agg vs.toArray, _, fun w' hw => ?_, ?_, hl, ⟨o, ho⟩⟩
                    · subst had
                      refine run_loadAgg hT hh hd ha rfl (by rw [e1, hsz]) fun j v hj => ?_
                      have hjl : j < sig.length := by rw [← e1]; exact (List.getElem?_eq_some_iff.1 hj).1
                      rw [hw ⟨_, _, none⟩ ⟨a0, _, hb, rfl, rfl⟩]
                      rw [e2 j hjl] at hj
                      simpa [Sit.mem, Nat.add_assoc] using hj
                    · simp only [VRel]
                      exact ⟨_, rfl, row_rel hcont hi' l rfl e1 (fun j hj => by simpa using e2 j hj) _ rfl⟩
                  · exact hl.elim
              · exact hl.elim
          · exact hl.elim
      · exact hl.elim
    · exact hl.elim
  · exact hl.elim

/-! ### stores -/
theorem run_storeAt {t : Nat} {d : TD} (hd : T t = some d) {ad : Addr} (hs : ad = ⟨ad.block, ad.off, none⟩) {v : Value} (hv : v.cells.size = d.size) (h1 : ∀ x ∈ v.cells.toList, x.oneCell' = true) {w : World}
    (hc : ∀ j, j < d.size → (w.cell? ⟨ad.block, ad.off + j, none⟩).isSome = true) (hf : ∀ o, w.frozen? ⟨ad.block, o, none⟩ = false) :
    (Instr.storeAt t (.pointer (some ad)) v).run P w = .ok () (w.setCells ad.block ad.off v.cells.toList) := by
  have hst := run_storeCells_cells (P := P) ad.block ad.off v.cells.toList 0 w (fun j hj => by simpa using hc j (by simpa [hv] using hj)) (fun j _ => hf _) h1
  simp only [Nat.add_zero] at hst
  simp only [Instr.storeAt, Instr.sureAddr, Sem.run_bind, Sem.run_pure, Result.andThen_ok, storeVar, (hT t d hd).size, Sem.run_ite]
  rw [if_neg (by simp [hv])]
  rw [hs]
  exact hst
/-- the outcome of an effect -/
def EffOk (P : Program) (s : Sit) (h : Heap) (x : Sem Next) (K : AV → Heap → List Tch → Prop) : Prop :=
  ∃ s' av v h' tc n, x.run P s.w = .ok n s'.w ∧ (n = .value v ∨ n = .skip ∧ v = undef) ∧ Ev s s' ∧ s.base <+: s'.base ∧ HRel s' h' ∧ VRel s' av v ∧ Un s s' h h' tc ∧ K av h' tc
omit hT hh in
theorem undef_rel (s : Sit) : VRel s (.tuple []) undef := by simp [VRel, VRels, undef]
theorem flags_own {o : Obj} {b : Nat} (hm : o.mt = true) (hf : Flags s o.mt b) : s.own b ∧ ∀ x, s.w.frozen? ⟨b, x, none⟩ = false := by
  have := hf.2; rw [hm] at this; exact this
omit hT hh in
theorem run_unit {P : Program} {x : Sem Unit} {w w' : World} (h : x.run P w = .ok () w') : (do x; pure Next.skip : Sem Next).run P w = .ok .skip w' := by
  simp [h]
theorem eStore_ok {t : Nat} {x y : AV} {u z : Value} {K : Heap → Tch → Prop} (hl : eStore T t x y h K) (hx : VRel s x u) (hy : VRel s y z) :
    EffOk P s h (do Instr.storeAt t u z; pure Next.skip) (fun av h' tc => av = .tuple [] ∧ ∃ tch, tc = [tch] ∧ K h' tch) := by
  unfold eStore at hl
  split at hl
  · rename_i b i f
    simp only [VRel] at hx
    obtain ⟨ad, hp, rfl⟩ := hx
    split at hl
    · rename_i o ho
      obtain ⟨a0, sz, hb, hsp, had, hfl, hcont⟩ := obj_at hT hh hp ho
      split at hl
      · rename_i hm
        obtain ⟨hown, hfro⟩ := flags_own hT hh hm hfl
        unfold ti at hl
        split at hl
        · rename_i d hd
          -- what is common to all ways: the write, and what is owed behind it
          have fin : ∀ (c : Cont) (tch : Tch), z.cells.size = d.size → (∀ x ∈ z.cells.toList, x.oneCell' = true) → (∀ j, j < d.size → (s.w.cell? ⟨ad.block, ad.off + j, none⟩).isSome = true) →
              (match c with
                | .cells l => CellsIn s ((s.write a0.block ad.off z.cells.toList).mem a0) l
                | .rows sig l => sz = sig.length ∧ 0 < sig.length ∧ DIn s sig ((s.write a0.block ad.off z.cells.toList).mem a0) (l ())) →
              (tch = .obj b ∨ ∃ f, tch = .cel b f d.size ∧ ad.off = a0.off + f) → K (upd h b (some ⟨true, c⟩)) tch →
              EffOk P s h (do Instr.storeAt t (.pointer (some ad)) z; pure Next.skip) (fun av h' tc => av = .tuple [] ∧ ∃ tch, tc = [tch] ∧ K h' tch) := by
            intro c tch g1 g2 g3 g4 g5 g6
            have hab : ad.block = a0.block := by rw [had]
            refine ⟨s.write a0.block ad.off z.cells.toList, .tuple [], undef, _, [tch], .skip, ?_, .inr ⟨rfl, rfl⟩, write_ev hown _ _, prefix_refl' _, write_ok hh ho hm hb g4, undef_rel _, ?_, rfl, tch, rfl, g6⟩
            · refine run_unit ?_
              rw [run_storeAt hT hh hd (place_spot hT hp) g1 g2 g3 (by rw [hab]; exact hfro), hab]
              rfl
            · refine write_un hh ho hm hb _ _ ?_
              rcases g5 with rfl | ⟨f, rfl, g5⟩
              · exact .inl (by simp)
              · exact .inr ⟨f, d.size, by simp, g5, by simpa using g1⟩
          split at hl
          · rename_i l hc
            rw [hc] at hcont
            split at hl
            · split at hl
              · rename_i f0
                simp only [zv, Nat.zero_mul, Nat.zero_add] at had
                obtain ⟨d', cs, hd', hl, hcr, hcl, hone⟩ := cellsV_sound hl hy
                rw [hd] at hd'
                simp at hd'
                subst hd'
                split at hl
                · rename_i l' hl'
                  obtain ⟨p1, p2, p3⟩ := putAt_some hl'
                  have hzs : z.cells.size = d.size := by rw [← Array.length_toList, hcr.length, hcl]
                  have hex : ∀ j, j < d.size → (s.w.cell? ⟨ad.block, ad.off + j, none⟩).isSome = true := fun j hj => by
                    obtain ⟨x, hx⟩ := nth_of_lt (l := l) (i := f0 + j) (by omega)
                    obtain ⟨v, hv, _⟩ := hcont _ _ hx
                    subst had
                    simp only [Sit.mem] at hv
                    simp only [Nat.add_assoc, hv, Option.isSome_some]
                  refine fin (.cells l') _ hzs hone hex ?_ (.inr ⟨f0, rfl, by rw [had]⟩) hl
                  intro j x hjx
                  simp only [Sit.mem, Sit.write]
                  rw [setCells_get (fun j hj => by
                    have := hex j (by simpa [hzs] using hj)
                    rw [had] at this ⊢
                    exact this)]
                  rw [nth_eq, p3 j] at hjx
                  rw [had]
                  simp only [Array.length_toList, hzs]
                  split at hjx
                  · rename_i hj
                    rw [if_pos (by omega), show a0.off + j - (a0.off + f0) = j - f0 by omega]
                    rw [← nth_eq] at hjx
                    obtain ⟨v, hv, hr⟩ := hcr.nth hjx
                    exact ⟨v, hv, hr⟩
                  · rename_i hj
                    rw [if_neg (by omega)]
                    exact hcont j x (by rw [nth_eq]; exact hjx)
                · exact hl.elim
              · exact hl.elim
            · exact hl.elim
          · rename_i sig l hc
            rw [hc] at hcont
            obtain ⟨rfl, h0, hcont⟩ := hcont
            split at hl
            · rename_i j
              simp only [zv] at had
              split at hl
              · rename_i ha
                split at hl
                · rename_i k hk
                  split at hl
                  · rename_i k' hk'
                    split at hl
                    · rename_i hkk
                      have hkk := kdEq_eq hkk
                      subst hkk
                      obtain ⟨_, hi, hl⟩ := inN_ok hl
                      rw [ofNat_v] at hi
                      have hi' : i.v < (l ()).length := by simpa [NX.v] using hi
                      have hjl := nth_some_lt hk
                      have hd1 := size_one hT hd ha
                      have hdr := dOf_rel hk' hy
                      have hsc : scal y = true := by
                        cases y <;> first | rfl | (simp [kdOf] at hk')
                      have hz1 := scal_one hsc hy
                      have hzc := cells_of_one hz1
                      obtain ⟨old, hold⟩ := hcont.cell hi' hjl
                      have hex : ∀ j, j < d.size → (s.w.cell? ⟨ad.block, ad.off + j, none⟩).isSome = true := fun j' hj => by
                        rw [hd1] at hj
                        obtain rfl : j' = 0 := by omega
                        rw [had]
                        simp only [Sit.mem] at hold
                        simp [hold]
                      refine fin (.rows sig _) _ (by rw [hzc, hd1]; rfl) (by rw [hzc]; simpa using hz1) hex ⟨rfl, h0, ?_⟩ (.inl rfl) hl
                      obtain ⟨r, hr⟩ := nth_of_lt hi'
                      have hrl := hcont.1 _ r hr
                      have getR : (l ()).getD i.v [] = r := getD_of_nth hr
                      have get : ∀ n, (s.write a0.block ad.off z.cells.toList).mem a0 n = if n = i.v * sig.length + j then some z else s.mem a0 n := fun n => by
                        simp only [Sit.mem, Sit.write, hzc]
                        rw [setCells_get (fun j' hj' => by
                          simp at hj'
                          obtain rfl : j' = 0 := by omega
                          rw [had]
                          simp only [Sit.mem] at hold
                          simp [hold])]
                        rw [had]
                        simp only [List.length_cons, List.length_nil]
                        by_cases hn : n = i.v * sig.length + j
                        · rw [if_pos (by omega), if_pos hn, hn]; simp
                        · rw [if_neg (by omega), if_neg hn]
                      rw [getR]
                      refine ⟨fun i' r' hr' => ?_, fun i' j' r' k d' hr' hk2 hd2 => ?_⟩
                      · rcases nth_set hr' with ⟨_, rfl⟩ | ⟨_, hr'⟩
                        · simpa using hrl
                        · exact hcont.1 i' r' hr'
                      · rw [get]
                        have hj'l := nth_some_lt hk2
                        rcases nth_set hr' with ⟨rfl, rfl⟩ | ⟨hii, hr'⟩
                        · rcases nth_set hd2 with ⟨rfl, rfl⟩ | ⟨hjj, hd2⟩
                          · rw [if_pos rfl]
                            rw [hk] at hk2
                            simp at hk2; subst hk2
                            exact ⟨z, rfl, hdr⟩
                          · rw [if_neg (by omega)]
                            exact hcont.2 _ j' r k d' hr hk2 hd2
                        · have hne : i' * sig.length + j' ≠ i.v * sig.length + j := by
                            intro e
                            have e1 : (i' * sig.length + j') / sig.length = i' := by rw [Nat.add_comm, Nat.add_mul_div_right _ _ h0, Nat.div_eq_of_lt hj'l, Nat.zero_add]
                            have e2 : (i.v * sig.length + j) / sig.length = i.v := by rw [Nat.add_comm, Nat.add_mul_div_right _ _ h0, Nat.div_eq_of_lt hjl, Nat.zero_add]
                            rw [e, e2] at e1
                            exact hii e1.symm
                          rw [if_neg hne]
                          exact hcont.2 i' j' r' k d' hr' hk2 hd2
                    · exact hl.elim
                  · exact hl.elim
                · exact hl.elim
              · rename_i ha
                split at hl
                · split at hl
                  · rename_i n e hk
                    split at hl
                    · split at hl
                      · rename_i hsz
                        have hsz := Nat.eq_of_beq_eq_true hsz
                        rw [len_eq] at hsz
                        cases hl with
                        | mk hn hl =>
                          obtain ⟨l', a1, hl, rfl, hs1, hn1, hd1⟩ := asRows_sound hl hy
                          simp only [zv, Nat.zero_mul, Nat.add_zero] at had
                          have hex : ∀ j, j < d.size → (s.w.cell? ⟨ad.block, ad.off + j, none⟩).isSome = true := fun j hj => by
                            obtain ⟨v, hv⟩ := hcont.all h0 (j := j) (by rw [hn, ← hsz]; exact hj)
                            rw [had]
                            simp only [Sit.mem] at hv
                            simp [hv]
                          have hsc : ∀ x ∈ (Value.agg a1).cells.toList, x.oneCell' = true := fun x hx => by
                            simp only [Value.cells] at hx
                            obtain ⟨q, hq⟩ := List.mem_iff_getElem?.1 hx
                            have hql : q < n * sig.length := by rw [← hs1, ← Array.length_toList]; exact (List.getElem?_eq_some_iff.1 hq).1
                            have hqr : q / sig.length < (l' ()).length := by rw [hn1]; exact (Nat.div_lt_iff_lt_mul h0).2 hql
                            obtain ⟨r, hr⟩ := nth_of_lt hqr
                            obtain ⟨k, hk2⟩ := nth_of_lt (l := sig) (i := q % sig.length) (Nat.mod_lt _ h0)
                            obtain ⟨dd, hdd⟩ := nth_of_lt (l := r) (i := q % sig.length) (by rw [hd1.1 _ r hr]; exact Nat.mod_lt _ h0)
                            obtain ⟨v, hv, hvr⟩ := hd1.2 _ _ r k dd hr hk2 hdd
                            rw [Nat.div_add_mod'] at hv
                            simp only [Array.getElem?_toList] at hq
                            simp only [hq] at hv
                            simp at hv; subst hv
                            cases hvr <;> rfl
                          refine fin (.rows sig l') _ (by simp [Value.cells, hs1, hsz]) hsc hex ⟨rfl, h0, ?_⟩ (.inl rfl) hl
                          refine hd1.of_eq fun j hj => ?_
                          rw [hn1] at hj
                          simp only [Sit.mem, Sit.write]
                          rw [setCells_get (fun j' hj' => by
                            have := hex j' (by simpa [Value.cells, hs1, hsz] using hj')
                            rw [had] at this ⊢
                            exact this)]
                          rw [had]
                          rw [if_pos (by simp [Value.cells, hs1]; omega)]
                          simp [Value.cells]
                      · exact hl.elim
                    · exact hl.elim
                  · split at hl
                    · rename_i hsz
                      have hsz := Nat.eq_of_beq_eq_true hsz
                      rw [len_eq] at hsz
                      obtain ⟨l', a1, hl, rfl, hs1, hn1, hd1⟩ := asRows_sound hl hy
                      obtain ⟨_, hi, hl⟩ := inN_ok hl
                      rw [ofNat_v] at hi
                      have hi' : i.v < (l ()).length := by simpa [NX.v] using hi
                      simp only [Nat.add_zero] at had
                      have hex : ∀ j, j < d.size → (s.w.cell? ⟨ad.block, ad.off + j, none⟩).isSome = true := fun j hj => by
                        obtain ⟨v, hv⟩ := hcont.cell hi' (j := j) (by omega)
                        rw [had]
                        simp only [Sit.mem] at hv
                        simp [Nat.add_assoc, hv]
                      obtain ⟨r', hr'⟩ := nth_of_lt (l := l' ()) (i := 0) (by omega)
                      have hr'l := hd1.1 _ r' hr'
                      have hsc : ∀ x ∈ (Value.agg a1).cells.toList, x.oneCell' = true := fun x hx => by
                        simp only [Value.cells] at hx
                        obtain ⟨q, hq⟩ := List.mem_iff_getElem?.1 hx
                        have hql : q < sig.length := by
                          have := (List.getElem?_eq_some_iff.1 hq).1
                          simp only [Array.length_toList, hs1] at this; omega
                        obtain ⟨k, hk2⟩ := nth_of_lt (l := sig) (i := q) hql
                        obtain ⟨dd, hdd⟩ := nth_of_lt (l := r') (i := q) (by omega)
                        obtain ⟨v, hv, hvr⟩ := hd1.2 _ _ r' k dd hr' hk2 hdd
                        simp only [Array.getElem?_toList] at hq
                        simp only [Nat.zero_mul, Nat.zero_add, hq] at hv
                        simp at hv; subst hv
                        cases hvr <;> rfl
                      refine fin (.rows sig _) _ (by simp [Value.cells, hs1, hsz]) hsc hex ⟨rfl, h0, ?_⟩ (.inl rfl) hl
                      have getR : (l' ()).getD 0 [] = r' := getD_of_nth hr'
                      have get : ∀ n, (s.write a0.block ad.off (Value.agg a1).cells.toList).mem a0 n = if i.v * sig.length ≤ n ∧ n < i.v * sig.length + sig.length then a1[n - i.v * sig.length]? else s.mem a0 n := fun n => by
                        simp only [Sit.mem, Sit.write]
                        rw [setCells_get (fun j' hj' => by
                          have := hex j' (by simpa [Value.cells, hs1, hsz] using hj')
                          rw [had] at this ⊢
                          exact this)]
                        rw [had]
                        simp only [Value.cells, Array.length_toList, hs1, Nat.one_mul]
                        by_cases hn : i.v * sig.length ≤ n ∧ n < i.v * sig.length + sig.length
                        · rw [if_pos (by omega), if_pos hn, show a0.off + n - (a0.off + i.v * sig.length) = n - i.v * sig.length by omega]; simp
                        · rw [if_neg (by omega), if_neg hn]
                      rw [getR]
                      refine ⟨fun i' r2 hr2 => ?_, fun i' j' r2 k d' hr2 hk2 hd2 => ?_⟩
                      · rcases nth_set hr2 with ⟨_, rfl⟩ | ⟨_, hr2⟩
                        · exact hr'l
                        · exact hcont.1 i' r2 hr2
                      · rw [get]
                        have hj'l := nth_some_lt hk2
                        rcases nth_set hr2 with ⟨rfl, rfl⟩ | ⟨hii, hr2⟩
                        · rw [if_pos (by omega), show i.v * sig.length + j' - i.v * sig.length = j' by omega]
                          obtain ⟨v, hv, hvr⟩ := hd1.2 0 j' _ k d' hr' hk2 hd2
                          exact ⟨v, by simpa using hv, hvr⟩
                        · have hne : ¬ (i.v * sig.length ≤ i' * sig.length + j' ∧ i' * sig.length + j' < i.v * sig.length + sig.length) := by
                            rintro ⟨e1, e2⟩
                            rcases Nat.lt_trichotomy i' i.v with hlt | heq | hgt
                            · have : (i' + 1) * sig.length ≤ i.v * sig.length := Nat.mul_le_mul_right _ hlt
                              rw [Nat.succ_mul] at this; omega
                            · exact hii heq
                            · have : (i.v + 1) * sig.length ≤ i' * sig.length := Nat.mul_le_mul_right _ hgt
                              rw [Nat.succ_mul] at this; omega
                          rw [if_neg hne]
                          exact hcont.2 i' j' r2 k d' hr2 hk2 hd2
                    · exact hl.elim
                · exact hl.elim
            · exact hl.elim
        · exact hl.elim
      · exact hl.elim
    · exact hl.elim
  · exact hl.elim
end
end Go.Sy
